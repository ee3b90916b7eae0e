/- Lemmas and contracts, part 7. -/
import Derived.Test.YtafomdobfmmleaaGreatDoorZb6
import Derived.Laws.StructEq
import Derived.Lib.ConvBytes
/- Walks computed: an operation that only computes yields the value of its datum, in whatever world. No program here. -/
namespace Go.Proofs.YtafomdobfmmleaaGreatDoor
open Go.RowKit
set_option linter.unusedSectionVars false
variable [Old]
set_option linter.unusedVariables false

section
variable {P : Program} {Q : Exit → S → Prop}
/-- what 'execP' gives -/
def Pg [Wd] (P : Program) (I : Nat → Prop) (g : Ghost) (w : World) (ρ : Operand → Value) (o : Oper) (Q : Exit → S → Prop) (k : D → T) : Prop :=
  ∃ v d, (∀ w', (execOp ρ o).run P w' = .ok (.value v) w') ∧ Vr I g w v d ∧ (k d).ok P Q
theorem run_v {m : Sem Value} {v : Value} (h : ∀ w, m.run P w = .ok v w) (w : World) : (do pure (.value (← m)) : Sem Next).run P w = .ok (.value v) w := by
  rw [Sem.run_bind, h]; rfl
theorem Pg.mk [Wd] {I : Nat → Prop} {g : Ghost} {w : World} {ρ : Operand → Value} {o : Oper} {k : D → T} {m : Sem Value} {v : Value} {d : D} (he : execOp ρ o = (do pure (.value (← m)))) (h : ∀ w, m.run P w = .ok v w) (hr : Vr I g w v d) (hk : (k d).ok P Q) : Pg P I g w ρ o Q k :=
  ⟨v, d, fun w' => by rw [he]; exact run_v h w', hr, hk⟩
theorem eqGuard_ok {op : BinOp} {t : TypeId} {x y : Operand} {u v : Value} (h1 : u ≠ .nilIface) (h2 : ∀ a, u ≠ .agg a) (w : World) : (eqGuard op t x y u v).run P w = .ok () w := by
  unfold eqGuard
  cases op <;> (cases u <;> first
    | exact absurd rfl h1
    | exact absurd rfl (h2 _)
    | rfl
    | (cases v <;> rfl))
theorem binD_plain [Wd] {tb : TT} {op : BinOp} {xt : TypeId} {x y : D} {u : Value} {I : Nat → Prop} {g : Ghost} {w : World} (hx : Vr I g w u x) {c : D → T} (h : (binD tb op xt x y c).ok P Q) : u ≠ .nilIface ∧ ∀ a, u ≠ .agg a := by
  unfold binD at h
  split at h
  · cases hx.int_inv; exact ⟨by simp, by simp⟩
  · cases hx.str_inv; exact ⟨by simp, by simp⟩
  · cases hx.bool_inv; exact ⟨by simp, by simp⟩
  · obtain ⟨b, bo, _, rfl⟩ := hx.ptr_inv; exact ⟨by simp, by simp⟩
  · cases hx.nilp_inv; exact ⟨by simp, by simp⟩
  · have h0 := hx.list_inv
    cases h0
    exact ⟨by simp, by simp⟩
  · cases hx.nils_inv; exact ⟨by simp, by simp⟩
  · exact h.elim
theorem eqF_ok [Wd] {tb : TT} (htb : tb.ok P) {I : Nat → Prop} {g : Ghost} {w : World} {ih : TypeId → D → D → (Bool → T) → T} {d : Nat}
    (hih : ∀ {t : TypeId} {x y : D} {u v : Value} {k : Bool → T}, Vr I g w u x → Vr I g w v y → (ih t x y k).ok P Q → ∃ z, (∀ w', (Op.equalIn d t u v).run P w' = .ok z w') ∧ (k z).ok P Q)
    {xs ys : List D} {us vs : List Value} (hx : Vrs I g w us xs) (h1 : ∀ v ∈ us, v.oneCell' = true) (hy : Vrs I g w vs ys) (h2 : ∀ v ∈ vs, v.oneCell' = true) :
    ∀ (gs : List Field) (hn : (gs.all fun f => !(f.name == "_")) = true) (acc : Bool) (k : Bool → T), (eqF tb ih xs ys (gs.map fun f => (f.offset, f.type)) acc k).ok P Q →
      ∃ z, (∀ w', (Op.eqFields d us.toArray vs.toArray gs).run P w' = .ok z w') ∧ (k (acc && z)).ok P Q
  | [], hn, acc, k, h => ⟨true, fun w' => by simp [Op.eqFields], by rw [Bool.and_true]; exact h⟩
  | f :: gs, hn, acc, k, h => by
    simp only [List.map_cons, eqF] at h
    simp only [List.all_cons, Bool.and_eq_true] at hn
    have hf : f.name ≠ "_" := by simpa using hn.1
    split at h
    · rename_i x y e1 e2
      obtain ⟨u, r1, r2⟩ := partD_ok htb e1 hx h1
      obtain ⟨v, r3, r4⟩ := partD_ok htb e2 hy h2
      obtain ⟨z, r5, h⟩ := hih r2 r4 h
      obtain ⟨z2, r6, h⟩ := eqF_ok htb hih hx h1 hy h2 gs hn.2 (acc && z) k h
      refine ⟨z && z2, fun w' => ?_, by rw [← Bool.and_assoc]; exact h⟩
      simp only [Op.eqFields, if_pos hf, Sem.run_bind, r1, r3, r5, Result.andThen_ok]
      cases z
      · simp
      · simp [r6]
    · exact h.elim
theorem eqK_ok [Wd] {tb : TT} (htb : tb.ok P) {I : Nat → Prop} {g : Ghost} {w : World} (e : Nat) : ∀ (n : Nat) {t : TypeId} {x y : D} {u v : Value} {k : Bool → T}, Vr I g w u x → Vr I g w v y → (eqK tb n t x y k).ok P Q → ∃ z, (∀ w', (Op.equalIn (n + e) t u v).run P w' = .ok z w') ∧ (k z).ok P Q
  | 0, t, x, y, u, v, k, hx, hy, h => h.elim
  | n + 1, t, x, y, u, v, k, hx, hy, h => by
    rw [show n + 1 + e = (n + e) + 1 from by omega]
    unfold eqK at h
    split at h
    · rename_i sz by_ z kd hl
      split at h
      · cases hx.int_inv; cases hy.int_inv
        rename_i k1 a k2 b
        cases hk : Nat.beq (kno k1) (kno k2) with
        | false => rw [hk] at h; exact h.elim
        | true =>
          rw [hk] at h
          cases kno_inj hk
          exact ⟨_, fun w' => run_equalIn_int w' _ t _ _ a b (kind_int htb hl), h⟩
      · cases hx.str_inv; cases hy.str_inv
        exact ⟨_, fun w' => by rw [run_equalIn_string w' _ t _ _ (kind_str htb hl), bstr_beqD], h⟩
      · cases hx.bool_inv; cases hy.bool_inv
        exact ⟨_, fun w' => run_equalIn_bool' w' _ t _ _ (kind_bool htb hl), h⟩
      · rename_i fs xs ys
        obtain ⟨us, rfl, k1, k2⟩ := hx.agg_inv
        obtain ⟨vs, rfl, k3, k4⟩ := hy.agg_inv
        obtain ⟨gs, hu, rfl, _⟩ := kind_struct htb hl
        have he := (htb t _ hl).eq rfl
        unfold eqOkB at he
        rw [hu] at he
        simp only [Bool.and_eq_true, Bool.not_eq_true'] at he
        obtain ⟨e1, e2, e3⟩ := he
        have hfs : P.fieldsOf t = gs := by unfold Program.fieldsOf; rw [hu]
        obtain ⟨z, r, h⟩ := eqF_ok htb (fun p q r => eqK_ok htb e n p q r) k1 k2 k3 k4 gs.toList (by simpa using e3) true k h
        refine ⟨z, fun w' => ?_, by simpa using h⟩
        rw [run_equalIn_struct w' _ t _ _ (by rw [hfs]; exact hu) e1, hfs]
        exact r w'
      · exact h.elim
    · exact h.elim
/-- two structs held one against the other -/
theorem eqS_ok [Wd] {tb : TT} (htb : tb.ok P) {I : Nat → Prop} {g : Ghost} {w : World} {op : BinOp} {t : TypeId} {x y : D} {u v : Value} {p q : Operand} {c : D → T} (ha : aggD x = true) (hx : Vr I g w u x) (hy : Vr I g w v y) (h : (eqK tb 6 t x y fun z => eqB2 op z c).ok P Q) :
    ∃ r d, (∀ w', (do eqGuard op t p q u v; binOp op t u v : Sem Value).run P w' = .ok r w') ∧ Vr I g w r d ∧ (c d).ok P Q := by
  have h0 := h
  obtain ⟨z, r, h⟩ := eqK_ok htb 9994 6 hx hy h
  have hs : ∃ us vs : List Value, u = .agg us.toArray ∧ v = .agg vs.toArray ∧ P.eqGuardType P.depth t = false := by
    cases x <;> try (cases ha; done)
    rename_i xs
    obtain ⟨us, rfl, k1, k2⟩ := hx.agg_inv
    unfold eqK at h0
    split at h0
    · rename_i sz by_ z kd hl
      cases kd <;> cases y <;> try exact h0.elim
      obtain ⟨vs, rfl, k3, k4⟩ := hy.agg_inv
      have he := (htb t _ hl).eq rfl
      unfold eqOkB at he
      simp only [Bool.and_eq_true, Bool.not_eq_true'] at he
      exact ⟨us, vs, rfl, rfl, he.2.1⟩
    · exact h0.elim
  obtain ⟨us, vs, rfl, rfl, hg⟩ := hs
  cases op <;> simp only [eqB2, T.ok] at h
  case eql =>
    refine ⟨_, _, fun w' => ?_, .bool' z, h⟩
    rw [Sem.run_bind, run_eqGuard_agg w' _ _ _ _ _ _ hg]
    simp only [Result.andThen_ok]
    rw [run_eql_struct, show (10000 : Nat) = 6 + 9994 from rfl, r]; rfl
  case neq =>
    refine ⟨_, _, fun w' => ?_, .bool' (!z), h⟩
    rw [Sem.run_bind, run_eqGuard_agg w' _ _ _ _ _ _ hg]
    simp only [Result.andThen_ok]
    rw [run_neq_struct, show (10000 : Nat) = 6 + 9994 from rfl, r]; rfl
theorem fieldD_ok {tb : TT} (htb : tb.ok P) {t : TypeId} {f o : Nat} {u : TypeId} (h : fieldD tb t f = some (o, u)) : ∃ (gs : Array Field) (fl : Field) (i : TyI), P.underlying t = some (.struct gs) ∧ gs[f]? = some fl ∧ fl.offset = o ∧ fl.type = u ∧ tb.look u = some i ∧ ∃ inf, P.info? u = some inf ∧ inf.size ≠ 0 := by
  unfold fieldD at h
  split at h
  · rename_i sz by_ z fs hl
    obtain ⟨gs, hu, rfl, _⟩ := kind_struct htb hl
    split at h
    · rename_i o' t' hf
      split at h
      · rename_i i hi
        cases hz : Nat.beq i.size 0 with
        | true => rw [hz] at h; cases h
        | false =>
          rw [hz] at h
          injection h with h
          injection h with h1 h2
          subst h1 h2
          rw [lf_get, List.getElem?_map] at hf
          cases hg : gs.toList[f]? with
          | none => rw [hg] at hf; cases hf
          | some fl =>
            rw [hg] at hf
            injection hf with hf
            injection hf with e1 e2
            obtain ⟨inf, z', hinf, hsz, _⟩ := (htb _ i hi).info
            refine ⟨gs, fl, i, hu, by rw [← Array.getElem?_toList]; exact hg, e1, e2, hi, inf, hinf, fun e => ?_⟩
            rw [← hsz, e] at hz
            cases hz
      · cases h
    · cases h
  · cases h
theorem fieldAt_run {tb : TT} (htb : tb.ok P) {t : TypeId} {f o : Nat} {u : TypeId} (h : fieldD tb t f = some (o, u)) (b off : Nat) (w : World) : (Instr.fieldAt t (.pointer (some ⟨b, off, none⟩)) f).run P w = .ok (.pointer (some ⟨b, off + o, none⟩)) w := by
  obtain ⟨gs, fl, i, hu, hg, rfl, rfl, _, inf, hinf, hz⟩ := fieldD_ok htb h
  unfold Instr.fieldAt
  rw [Sem.run_bind, run_underlying hu]
  simp only [Result.andThen_ok, hg, Instr.sureAddr, Sem.run_bind, Sem.run_pure, fieldPlace, sizeOf_run hinf, if_neg hz, Addr.add_mid]
theorem field_run {tb : TT} (htb : tb.ok P) {t : TypeId} {f o : Nat} {u : TypeId} (h : fieldD tb t f = some (o, u)) {cs : Array Value} {v : Value} (w : World) (hp : ∀ w', (part u cs o).run P w' = .ok v w') : (Instr.field t (.agg cs) f).run P w = .ok v w := by
  obtain ⟨gs, fl, i, hu, hg, rfl, rfl, _⟩ := fieldD_ok htb h
  unfold Instr.field
  rw [Sem.run_bind, run_underlying hu]
  simp only [Result.andThen_ok, hg, asAgg, Sem.run_bind, Sem.run_pure]
  exact hp w
theorem fill_ok {tb : TT} (htb : tb.ok P) {s : S} {a : Act} {I : Nat → Prop} {g : Ghost} {w : World} (hev : ∀ x, Vr I g w (a.eval x) (ev s x)) {fs : List (Nat × TypeId)} {pl : List (Nat × Nat)} (hpl : pl.length = fs.length) (hp : ∀ (i : Nat) (o : Nat) (t : TypeId) (j : TyI), fs[i]? = some (o, t) → tb.look t = some j → pl[i]? = some (o, j.size)) :
    ∀ (ps : List (Nat × Operand)) (cs cs' : List D) (A : Array Value), Vrs I g w A.toList cs → (∀ v ∈ A.toList, v.oneCell' = true) → fillD tb fs s cs ps = some cs' →
      ∃ A', Instr.fill (pl.toArray[·]?) A (ps.map fun x => (x.1, a.eval x.2)) = some A' ∧ Vrs I g w A'.toList cs' ∧ ∀ v ∈ A'.toList, v.oneCell' = true
  | [], cs, cs', A, hv, h1, h => by
    simp only [fillD] at h
    injection h with h
    subst h
    exact ⟨A, rfl, hv, h1⟩
  | (i, x) :: r, cs, cs', A, hv, h1, h => by
    simp only [fillD] at h
    split at h
    · cases h
    · rename_i o t hf
      rw [lf_get] at hf
      split at h
      · rename_i j ds hj hds
        cases hl0 : Nat.beq ds.length j.size && Nat.blt 0 j.size with
        | false => rw [hl0] at h; cases h
        | true =>
          rw [hl0] at h
          rw [Bool.and_eq_true] at hl0
          obtain ⟨hl, hpos⟩ := hl0
          simp only [cond_true] at h
          split at h
          · rename_i cs1 ho
            obtain ⟨rfl, hle⟩ := overD_eq _ _ _ _ ho
            obtain ⟨k1, k2⟩ := cellsD_ok (hev x) hds
            have hsz : (a.eval x).cells.size = j.size := by
              have := k1.1
              rw [Array.length_toList] at this
              rw [this]; exact Nat.eq_of_beq_eq_true hl
            have hlen : (a.eval x).cells.size = ds.length := by rw [hsz]; exact (Nat.eq_of_beq_eq_true hl).symm
            have hAs : A.size = cs.length := by rw [← Array.length_toList]; exact hv.1
            obtain ⟨A', e1, e2, e3⟩ := fill_ok htb hev hpl hp r _ cs' ((a.eval x).cells.zipIdx.foldl (fun (c : Array Value) (y : Value × Nat) => c.setIfInBounds (o + y.2) y.1) A) (by rw [foldl_setA]; exact hv.setMany o k1) (fun v hm => by
              rw [foldl_setA] at hm
              rcases setVs_mem _ _ _ _ hm with e | e
              · exact h1 v e
              · exact k2 v e) h
            refine ⟨A', ?_, e2, e3⟩
            simp only [List.map_cons, Instr.fill]
            rw [List.getElem?_toArray, hp i o t j hf hj]
            have hp0 : 0 < j.size := Nat.lt_of_lt_of_le (Nat.lt_of_succ_le (Nat.le_of_ble_eq_true hpos)) (Nat.le_refl _)
            have hdl : 0 < ds.length := by omega
            have hne : ds ≠ [] := List.ne_nil_of_length_pos hdl
            have c2 : ¬ ((decide ((a.eval x).cells.size ≠ j.size) || decide (o + (a.eval x).cells.size > A.size)) = true) := by
              rcases hle with e | e
              · exact absurd e hne
              · simp only [Bool.or_eq_true, decide_eq_true_eq]
                omega
            show (if (decide ((a.eval x).cells.size ≠ j.size) || decide (o + (a.eval x).cells.size > A.size)) = true then none else _) = _
            rw [if_neg c2]
            exact e1
          · cases h
      · cases h
theorem zD_ok {I : Nat → Prop} {g : Ghost} {w : World} {v : Value} {d : D} (h : zD v = some d) : Vr I g w v d ∧ v.oneCell' = true := by
  unfold zD at h
  split at h
  · injection h with h; subst h; exact ⟨.rd (.bool _), rfl⟩
  · injection h with h; subst h; exact ⟨.rd (.int _ _), rfl⟩
  · rename_i s
    cases hs : s.size == 0 with
    | false => rw [hs] at h; cases h
    | true =>
      rw [hs] at h
      injection h with h
      subst h
      have : s = bstr [] := by
        apply ByteArray.ext
        have h0 : s.data.size = 0 := by simpa using hs
        exact Array.eq_empty_of_size_eq_zero h0
      rw [this]
      exact ⟨.rd (.str []), rfl⟩
  · injection h with h; subst h; exact ⟨.rd .nils, rfl⟩
  · injection h with h; subst h; exact ⟨.rd .nilp, rfl⟩
  · injection h with h; subst h; exact ⟨.rd .nilf, rfl⟩
  · injection h with h; subst h; exact ⟨.rd .nilm, rfl⟩
  · injection h with h; subst h; exact ⟨.nili, rfl⟩
  · cases h
theorem zeroOk_ok {I : Nat → Prop} {g : Ghost} {w : World} : ∀ (vs : List Value) (ds : List D), zeroOk vs ds → Vrs I g w vs ds ∧ ∀ v ∈ vs, v.oneCell' = true
  | [], [], _ => ⟨.nil, by simp⟩
  | v :: vs, d :: ds, h => by
    obtain ⟨h1, h2⟩ := zeroOk_ok vs ds h.2
    obtain ⟨k1, k2⟩ := zD_ok (I := I) (g := g) (w := w) h.1
    exact ⟨.cons k1 h1, fun u hu => by rcases List.mem_cons.1 hu with rfl | e; exact k2; exact h2 u e⟩
  | [], _ :: _, h => h.elim
  | _ :: _, [], h => h.elim
theorem mapM_places {fs : List Field} (h : ∀ f ∈ fs, ∃ i, P.info? f.type = some i) : ∃ pl : List (Nat × Nat), fs.mapM (fun f => (P.info? f.type).map fun i => (f.offset, i.size)) = some pl ∧ pl.length = fs.length ∧ ∀ (i : Nat) (f : Field) (inf : TypeInfo), fs[i]? = some f → P.info? f.type = some inf → pl[i]? = some (f.offset, inf.size) := by
  induction fs with
  | nil => exact ⟨[], rfl, rfl, by simp⟩
  | cons f fs ih =>
    obtain ⟨pl, h1, h2, h3⟩ := ih (fun x hx => h x (by simp [hx]))
    obtain ⟨inf, hi⟩ := h f (by simp)
    refine ⟨(f.offset, inf.size) :: pl, by simp [List.mapM_cons, hi, h1], by simp [h2], fun i x q hx hq => ?_⟩
    cases i with
    | zero =>
      simp at hx; subst hx
      rw [hi] at hq; injection hq with hq; subst hq
      rfl
    | succ i => simp at hx ⊢; exact h3 i x q hx hq
theorem build_ok {tb : TT} (htb : tb.ok P) {s : S} {a : Act} {I : Nat → Prop} {g : Ghost} {w : World} (hev : ∀ x, Vr I g w (a.eval x) (ev s x)) {t : TypeId} {sz by_ : Nat} {z : List D} {fs : List (Nat × TypeId)} (hl : tb.look t = some ⟨sz, by_, z, .struct fs⟩) {parts : Array (Nat × Operand)} {cs : List D} (h : fillD tb fs s z parts.toList = some cs) :
    ∃ A : Array Value, (∀ w', (Instr.build t (parts.map fun (i, x) => (i, a.eval x))).run P w' = .ok (.agg A) w') ∧ Vr I g w (.agg A) (.agg cs) := by
  obtain ⟨gs, hu, hfs, hall⟩ := kind_struct htb hl
  obtain ⟨inf, zv, hinf, hsz, hby, hz, hzo, hzs, hzr⟩ := (htb t _ hl).info
  obtain ⟨pl, hp1, hp2, hp3⟩ := mapM_places hall
  obtain ⟨A0, rfl⟩ := hzr.2 rfl
  obtain ⟨k1, k2⟩ := zeroOk_ok (I := I) (g := g) (w := w) _ _ hzo
  subst hfs
  obtain ⟨A, e1, e2, e3⟩ := fill_ok htb hev (pl := pl) (by rw [hp2]; simp) (fun i o u j h1 h2 => by
    rw [List.getElem?_map] at h1
    cases hg : gs.toList[i]? with
    | none => rw [hg] at h1; cases h1
    | some f =>
      rw [hg] at h1
      injection h1 with h1
      injection h1 with e1 e2
      subst e1 e2
      obtain ⟨inf2, z2, hinf2, hsz2, _⟩ := (htb _ j h2).info
      rw [← hsz2]
      exact hp3 i f inf2 hg hinf2) parts.toList z cs A0 k1 k2 h
  refine ⟨A, fun w' => run_build w' t _ A ?_, ?_⟩
  · unfold Program.built
    rw [hinf, hu]
    simp only [hz, hp1, Value.cells, Array.toList_map]
    exact e1
  · have := Vr.mkAgg e2 e3
    simpa using this
end
end Go.Proofs.YtafomdobfmmleaaGreatDoor

/- Walks computed: 'execP' is sound. No program here. -/
namespace Go.Proofs.YtafomdobfmmleaaGreatDoor
open Go.RowKit
set_option linter.unusedSectionVars false
variable [Old]
set_option linter.unusedVariables false

section
variable {P : Program} {Q : Exit → S → Prop}
theorem idx_ok {I : Nat → Prop} {g : Ghost} {w : World} {v : Value} {d : D} {n : Int} (h : Vr I g w v d) (hi : idx d = some n) : ∃ k, v = .int k n := by
  cases d <;> simp only [idx] at hi <;> first
    | (cases hi; done)
    | (injection hi with hi; subst hi; exact ⟨_, h.int_inv⟩)
theorem lh_get : ∀ (h : List AO) (o : Nat), lh h o = .gone ∨ h[o]? = some (lh h o)
  | [], o => .inl (by simp [lh])
  | a :: l, 0 => .inr (by simp [lh])
  | a :: l, n + 1 => by
    rcases lh_get l n with e | e
    · exact .inl (by simp [lh, e])
    · exact .inr (by simp [lh, e])
theorem lh_row {h : List AO} {o : Nat} {e : TypeId} {n : Nat} {xs : List (List D)} (k : lh h o = .row e n xs) : h[o]? = some (.row e n xs) := by
  rcases lh_get h o with e' | e'
  · rw [k] at e'; cases e'
  · rw [k] at e'; exact e'
theorem lh_cells {h : List AO} {o : Nat} {e : TypeId} {cs : List D} (k : lh h o = .cells e cs) : h[o]? = some (.cells e cs) := by
  rcases lh_get h o with e' | e'
  · rw [k] at e'; cases e'
  · rw [k] at e'; exact e'
/-- the length of a slice or a string -/
theorem lenD_ok {I : Nat → Prop} {g : Ghost} {w : World} {h : List AO} (hd : Den I g w h) {v : Value} {d : D} {n : Nat} (hv : Vr I g w v d) (hl : lenD h d = some n) : ∃ a c, v = .slice a n c := by
  cases d <;> simp only [lenD] at hl <;> try (cases hl; done)
  case list m xs =>
    injection hl with hl
    subst hl
    have h0 := hv.list_inv
    cases h0 with
    | list A cap m l xs U hl0 _ _ _ _ _ _ _ => exact ⟨_, _, by rw [hl0]⟩
  case own m xs =>
    injection hl with hl
    subst hl
    have h0 := hv.forget.list_inv
    cases h0 with
    | list A cap m l xs U hl0 _ _ _ _ _ _ _ => exact ⟨_, _, by rw [hl0]⟩
  case nils => injection hl with hl; subst hl; exact ⟨_, _, hv.nils_inv⟩
  case row o =>
    obtain ⟨bo, a, l, c, hg, rfl⟩ := hv.row_inv
    cases hk : lh h o with
    | row e m xs =>
      rw [hk] at hl
      simp only at hl
      injection hl with hl
      subst hl
      obtain ⟨a', c', vs, hp, _⟩ := hd.obj o _ _ (lh_row hk) hg
      injection hp with e1 e2 e3
      exact ⟨a, c, by rw [e2]⟩
    | cells e cs => rw [hk] at hl; simp at hl
    | gone => rw [hk] at hl; simp at hl
theorem bound_run {x : Value} {k : IntKind} {n : Int} (hx : x = .int k n) {y : Nat} (h0 : 0 ≤ n) (h1 : n ≤ y) (c : BoundsCode) (w : World) : (Instr.sliceBound x y c).run P w = .ok n.toNat w := by
  subst hx
  simp [Instr.sliceBound, asIntOf, h0, h1]
theorem lo_run {I : Nat → Prop} {g : Ghost} {w : World} {s : S} {a : Act} (hev : ∀ x, Vr I g w (a.eval x) (ev s x)) {lo hi : Option Operand} {l h : Int} {len cap : Nat} {b : Bool} (hlo : loD s lo = some l) (hhi : hiD s len hi = some h) (h0 : 0 ≤ l) (h1 : l ≤ h) (h2 : h ≤ len) (hc : len ≤ cap) (w' : World) :
    (Instr.sliceBounds b len cap (lo.map a.eval) (hi.map a.eval) none).run P w' = .ok (l.toNat, h.toNat, cap) w' := by
  have hH : ∀ x, hi = some x → ∃ k, a.eval x = .int k h := fun x e => by subst e; exact idx_ok (hev x) hhi
  have hL : ∀ x, lo = some x → ∃ k, a.eval x = .int k l := fun x e => by subst e; exact idx_ok (hev x) hlo
  cases hi with
  | none =>
    simp only [hiD] at hhi
    injection hhi with hhi
    subst hhi
    cases lo with
    | none =>
      simp only [loD] at hlo
      injection hlo with hlo
      subst hlo
      simp [Instr.sliceBounds]
    | some x =>
      obtain ⟨k, hk⟩ := hL x rfl
      have := bound_run (P := P) hk (y := len) h0 (by omega) .sliceB w'
      simp [Instr.sliceBounds, this]
  | some y =>
    obtain ⟨k2, hk2⟩ := hH y rfl
    have q := fun c => bound_run (P := P) hk2 (y := cap) (by omega) (by omega) c w'
    cases lo with
    | none =>
      simp only [loD] at hlo
      injection hlo with hlo
      subst hlo
      simp [Instr.sliceBounds, q]
    | some x =>
      obtain ⟨k, hk⟩ := hL x rfl
      have := bound_run (P := P) hk (y := h.toNat) h0 (by omega) .sliceB w'
      simp [Instr.sliceBounds, q, this]
theorem bstr_extract (s : List UInt8) (l h : Nat) : (bstr s).extract l h = bstr ((s.drop l).take (h - l)) := by
  apply ByteArray.ext
  apply Array.toList_inj.1
  simp [bstr, ByteArray.data_extract, List.extract_eq_take_drop]
/-- a slice cut -/
theorem Dr.cut {I : Nat → Prop} {w : World} {A : Option Addr} {len cap n : Nat} {xs : List (List D)} (h : Dr I w (.slice A len cap) (.list n xs)) {l k : Nat} (h1 : l ≤ k) (h2 : k ≤ len) :
    Dr I w (.slice (if cap = l then A else A.map (·.add (l * n))) (k - l) (cap - l)) (.list n ((xs.drop l).take (k - l))) := by
  cases h with
  | list A cap n len xs U hl0 hl hm hnone hlen hA g1 hU =>
    have hg : ∀ (i : Nat) x, ((xs.drop l).take (k - l))[i]? = some x → xs[l + i]? = some x := by
      intro i x hx
      rw [List.getElem?_take] at hx
      split at hx
      · rw [List.getElem?_drop] at hx; exact hx
      · cases hx
    refine .list _ _ n _ _ (fun i j => U (l + i) j) (by simp; omega) (by omega) (by omega) (fun e => ?_) (fun x hx => hlen x (List.mem_of_mem_drop (List.mem_of_mem_take hx))) (fun hp => ?_) (fun i x j d hx => g1 (l + i) x j d (hg i x hx)) (fun i x j d hx => hU (l + i) x j d (hg i x hx))
    · split at e
      · have := hnone e; omega
      · cases A with
        | none => have := hnone rfl; omega
        | some ad => cases e
    · obtain ⟨b, off, rfl, hb, hI, hc⟩ := hA (by omega)
      rw [if_neg (by omega)]
      refine ⟨b, off + l * n, by simp only [Option.map_some, Addr.add_mid], hb, hI, fun i x j d hx hj => ?_⟩
      have := hc (l + i) x j d (hg i x hx) hj
      rw [← this]
      congr 2
      rw [Nat.add_mul]
      omega
theorem max2_run (k : IntKind) (a b : Int) (w : World) : (Builtin.max2 (.int k a) (.int k b)).run P w = .ok (.int k (if a < b then b else a)) w := by
  simp [Builtin.max2]
theorem min2_run (k : IntKind) (a b : Int) (w : World) : (Builtin.min2 (.int k a) (.int k b)).run P w = .ok (.int k (if b < a then b else a)) w := by
  simp [Builtin.min2]
set_option maxHeartbeats 4000000 in
theorem execP_ok [Wd] {E : En} (htb : E.tb.ok P) {s : S} {a : Act} {I : Nat → Prop} {g : Ghost} {w : World} (hev : ∀ x, Vr I g w (a.eval x) (ev s x)) (hd : Den I g w s.h) {o : Oper} {k : D → T} (h : (execP E o.op s k).ok P Q) : Pg P I g w a.eval o Q k := by
  obtain ⟨dst, op, ty, pos, after, guard⟩ := o
  simp only at h
  unfold execP at h
  split at h
  · -- move
    exact ⟨_, _, fun w' => rfl, hev _, h⟩
  · exact ⟨_, _, fun w' => rfl, hev _, h⟩
  · -- pick
    rename_i c x y
    split at h
    · rename_i b0 hc
      have hb := (hev c); rw [hc] at hb
      have hb := hb.bool_inv
      split at h
      · rename_i u v hu hv
        have h1 := hev x; rw [hu] at h1
        have h2 := hev y; rw [hv] at h2
        refine ⟨.bool (cond b0 u v), _, fun w' => ?_, .bool' _, h⟩
        cases b0 <;> simp [execOp, asBool, hb, h1.bool_inv, h2.bool_inv]
      · cases b0 with
        | true => exact ⟨_, _, fun w' => by simp [execOp, asBool, hb], hev x, h.1 rfl⟩
        | false => exact ⟨_, _, fun w' => by simp [execOp, asBool, hb], hev y, h.2 rfl⟩
    · exact h.elim
  · -- nilCheck
    rename_i x
    split at h
    · rename_i o f hx
      have hv := hev x; rw [hx] at hv
      obtain ⟨b, bo, _, e⟩ := hv.ptr_inv
      exact ⟨_, _, fun w' => by simp only [execOp, e]; rfl, by rw [← e]; exact hv, h⟩
    · rename_i cs hx
      have hv := hev x; rw [hx] at hv
      have h0 := hv.ref_inv
      cases e : a.eval x with
      | pointer p =>
        rw [e] at h0 hv
        cases h0
        exact ⟨_, _, fun w' => by simp only [execOp, e]; rfl, hv, h⟩
      | _ => rw [e] at h0; cases h0
    · rename_i f n c hx
      have hv := hev x; rw [hx] at hv
      obtain ⟨vs, e, _⟩ := hv.fn_inv
      exact ⟨_, _, fun w' => by simp only [execOp, e]; rfl, by rw [← e]; exact hv, h⟩
    · rename_i o n i f hx
      have hv := hev x; rw [hx] at hv
      obtain ⟨bo, b, base, l, c, _, e⟩ := hv.rowp_inv
      exact ⟨_, _, fun w' => by simp only [execOp, e]; rfl, by rw [← e]; exact hv, h⟩
    · exact h.elim
  · -- binOp, against nil
    rename_i bop xt x yt
    split at h
    · rename_i b sz by_ z hx hl
      have hv := hev x; rw [hx] at hv
      obtain ⟨ms, hu⟩ := kind_iface htb hl
      have hq : ∀ w', (Op.equal xt (a.eval x) .nilIface).run P w' = .ok b w' := fun w' => by
        rcases hv.ifn_inv with ⟨rfl, e⟩ | ⟨rfl, t, u, e⟩
        · rw [e]; exact run_equal_nilis hu w'
        · rw [e]; exact run_equal_iface hu t u w'
      have hne : (∀ k n, a.eval x ≠ .int k n) ∧ (∀ s, a.eval x ≠ .string s) ∧ (∀ k n, a.eval x ≠ .float k n) ∧ ∀ k n m, a.eval x ≠ .complex k n m := by
        rcases hv.ifn_inv with ⟨_, e⟩ | ⟨_, t, u, e⟩ <;> rw [e] <;> simp
      obtain ⟨v, d, r1, r2, r3⟩ := eqB2_ok (P := P) (xt := xt) hq hne.1 hne.2.1 hne.2.2.1 hne.2.2.2 h
      refine Pg.mk (m := do eqGuard bop xt x (.const .nilIface) (a.eval x) .nilIface; binOp bop xt (a.eval x) .nilIface) rfl (fun w' => ?_) (r2 I g w) r3
      have hg : (eqGuard bop xt x (.const .nilIface) (a.eval x) .nilIface).run P w' = .ok () w' := by
        unfold eqGuard
        rcases hv.ifn_inv with ⟨_, e⟩ | ⟨_, t, u, e⟩ <;> rw [e] <;> cases bop <;> simp
      rw [Sem.run_bind, hg]
      exact r1 w'
    · exact h.elim
  · -- binOp
    rename_i bop xt x y yt hny
    cases hag : aggD (ev s x) with
    | true =>
      rw [hag] at h
      obtain ⟨v, d, h1, h2, h3⟩ := eqS_ok (p := x) (q := y) htb hag (hev x) (hev y) h
      exact Pg.mk (m := do eqGuard bop xt x y (a.eval x) (a.eval y); binOp bop xt (a.eval x) (a.eval y)) rfl h1 h2 h3
    | false =>
    rw [hag] at h
    obtain ⟨v, d, h1, h2, h3⟩ := binD_ok htb (hev x) (hev y) h
    obtain ⟨p1, p2⟩ := binD_plain (hev x) h
    refine Pg.mk (m := do eqGuard bop xt x y (a.eval x) (a.eval y); binOp bop xt (a.eval x) (a.eval y)) rfl (fun w' => ?_) (h2 I g w) h3
    rw [Sem.run_bind, eqGuard_ok p1 p2]
    exact h1 w'
  · -- not
    rename_i t x
    split at h
    · rename_i b hx
      have hv := hev x; rw [hx] at hv
      have e := hv.bool_inv
      exact ⟨_, _, fun w' => by simp [execOp, Op.unary, e], .bool' _, h⟩
    · exact h.elim
  · rename_i t x
    split at h
    · rename_i i n hx
      have hv := hev x; rw [hx] at hv
      have e := hv.int_inv
      exact ⟨_, _, fun w' => by simp only [execOp, Op.unary, e, Op.intArith]; rfl, .int' _ _, h⟩
    · exact h.elim
  · -- convert
    rename_i src dst' x
    split at h
    · rename_i i0 sz by_ z i kd n hs hdst hx
      have hv := hev x; rw [hx] at hv
      have e := hv.int_inv
      obtain ⟨d0, hu⟩ := kind_some htb hs
      have hk := kind_int htb hdst
      refine Pg.mk (m := convert src dst' (a.eval x)) rfl (fun w' => ?_) (.int' _ _) h
      rw [e]
      simp [convert, run_underlying hu, run_underlying hk, Conv.intToInt]
    · rename_i b hs hdst hx
      have hv := hev x; rw [hx] at hv
      have e := hv.str_inv
      have hu := kind_str htb hs
      have hk := kind_str htb hdst
      refine Pg.mk (m := convert src dst' (a.eval x)) rfl (fun w' => ?_) (.str' _) h
      rw [e]
      simp [convert, run_underlying hu, run_underlying hk]
    · exact h.elim
  · -- fieldAddr
    rename_i t x f
    split at h
    · rename_i o u p off hf hx
      have hv := hev x; rw [hx] at hv
      obtain ⟨b, bo, hg, e⟩ := hv.ptr_inv
      refine Pg.mk (m := Instr.fieldAt t (a.eval x) f) rfl (fun w' => ?_) (.ptr p (off + o) b bo hg) h
      rw [e]
      exact fieldAt_run htb hf b off w'
    · rename_i o u cs hf hx
      have hv := hev x; rw [hx] at hv
      have h0 := hv.ref_inv
      cases e : a.eval x with
      | pointer pa =>
        rw [e] at h0
        cases h0 with
        | ref b off cs U hI hb hc g1 hU =>
          refine Pg.mk (m := Instr.fieldAt t (a.eval x) f) rfl (v := .pointer (some ⟨b, off + o, none⟩)) (fun w' => by rw [e]; exact fieldAt_run htb hf b off w') (.rd (.ref b (off + o) _ (fun j => U (o + j)) hI hb (fun j d hj => ?_) (fun j d hj => ?_) (fun j d hj => ?_))) h
          · rw [dropD_eq, List.getElem?_drop] at hj
            rw [Nat.add_assoc]
            exact hc _ d hj
          · rw [dropD_eq, List.getElem?_drop] at hj
            exact g1 _ d hj
          · rw [dropD_eq, List.getElem?_drop] at hj
            exact hU _ d hj
      | _ => rw [e] at h0; cases h0
    · rename_i o u p n i off hf hx
      have hv := hev x; rw [hx] at hv
      obtain ⟨bo, b, base, l, c, hg, e⟩ := hv.rowp_inv
      refine Pg.mk (m := Instr.fieldAt t (a.eval x) f) rfl (fun w' => ?_) (.rowp p n i (off + o) b base l c bo hg) h
      rw [e, ← Nat.add_assoc]
      exact fieldAt_run htb hf b _ w'
    · exact h.elim
  · -- field
    rename_i t x f
    split at h
    · rename_i o u cs hf hx
      have hv := hev x; rw [hx] at hv
      obtain ⟨vs, e, k1, k2⟩ := hv.agg_inv
      split at h
      · rename_i d hp
        obtain ⟨v, r1, r2⟩ := partD_ok htb hp k1 k2
        refine Pg.mk (m := Instr.field t (a.eval x) f) rfl (fun w' => ?_) r2 h
        rw [e]
        exact field_run htb hf w' r1
      · exact h.elim
    · exact h.elim
  · -- build
    rename_i t parts
    split at h
    · rename_i sz by_ z fs hl
      split at h
      · rename_i cs hf
        obtain ⟨A, r1, r2⟩ := build_ok htb hev hl hf
        exact Pg.mk (m := Instr.build t (parts.map fun (i, x) => (i, a.eval x))) rfl r1 r2 h
      · exact h.elim
    · exact h.elim
  · -- indexAddr
    rename_i t x i
    split at h
    · rename_i sz by_ z e hl
      split at h
      · rename_i n xs j y hx hi hy
        have hv := hev x; rw [hx] at hv
        have h0 := hv.list_inv
        obtain ⟨kd, hi'⟩ := idx_ok (hev i) hi
        cases hn : Nat.beq n y.size with
        | false => rw [hn] at h; exact h.elim
        | true =>
          rw [hn] at h
          obtain ⟨c, hj0, hc, hk⟩ := h
          have hk0 := kind_slice htb hl
          obtain ⟨inf, zv, hinf, hsz, _⟩ := (htb e y hy).info
          have hne : inf.size = n := by rw [hsz]; exact (Nat.eq_of_beq_eq_true hn).symm
          have hlt : j.toNat < xs.length := (List.getElem?_eq_some_iff.1 hc).1
          cases ex : a.eval x with
          | slice A len cap =>
            rw [ex] at h0
            cases h0 with
            | list A cap n len xs U hl0 hl' hm hnone hlen hA g1 hU =>
              obtain ⟨b, off, rfl, hb, hI, hcell⟩ := hA (by omega)
              refine Pg.mk (m := Instr.indexAt t (a.eval x) (a.eval i)) rfl (v := .pointer (some ⟨b, off + j.toNat * n, none⟩)) (fun w' => ?_) (.rd (.ref b (off + j.toNat * n) c (fun q => U j.toNat q) hI hb (fun q d hq => hcell _ _ _ _ hc hq) (fun q d hq => g1 _ _ _ _ hc hq) (fun q d hq => hU _ _ _ _ hc hq))) hk
              rw [ex, hi']
              have hrange : 0 ≤ j ∧ j < (len : Int) := by omega
              simp only [Instr.indexAt, asIntOf, Sem.run_bind, Sem.run_pure, Result.andThen_ok, run_underlying hk0, Sem.run_ite]
              rw [if_pos hrange]
              simp only [sizeOf_run hinf, Result.andThen_ok, hne, Addr.add_mid]
          | _ => rw [ex] at h0; cases h0
      · rename_i n xs j y hx hi hy
        have hv := hev x; rw [hx] at hv
        have h0 := hv.forget.list_inv
        obtain ⟨kd, hi'⟩ := idx_ok (hev i) hi
        cases hn : Nat.beq n y.size with
        | false => rw [hn] at h; exact h.elim
        | true =>
          rw [hn] at h
          obtain ⟨c, hj0, hc, hk⟩ := h
          have hk0 := kind_slice htb hl
          obtain ⟨inf, zv, hinf, hsz, _⟩ := (htb e y hy).info
          have hne : inf.size = n := by rw [hsz]; exact (Nat.eq_of_beq_eq_true hn).symm
          have hlt : j.toNat < xs.length := (List.getElem?_eq_some_iff.1 hc).1
          cases ex : a.eval x with
          | slice A len cap =>
            rw [ex] at h0
            cases h0 with
            | list A cap n len xs U hl0 hl' hm hnone hlen hA g1 hU =>
              obtain ⟨b, off, rfl, hb, hI, hcell⟩ := hA (by omega)
              refine Pg.mk (m := Instr.indexAt t (a.eval x) (a.eval i)) rfl (v := .pointer (some ⟨b, off + j.toNat * n, none⟩)) (fun w' => ?_) (.rd (.ref b (off + j.toNat * n) c (fun q => U j.toNat q) hI hb (fun q d hq => hcell _ _ _ _ hc hq) (fun q d hq => g1 _ _ _ _ hc hq) (fun q d hq => hU _ _ _ _ hc hq))) hk
              rw [ex, hi']
              have hrange : 0 ≤ j ∧ j < (len : Int) := by omega
              simp only [Instr.indexAt, asIntOf, Sem.run_bind, Sem.run_pure, Result.andThen_ok, run_underlying hk0, Sem.run_ite]
              rw [if_pos hrange]
              simp only [sizeOf_run hinf, Result.andThen_ok, hne, Addr.add_mid]
          | _ => rw [ex] at h0; cases h0
      · rename_i o j y hx hi hy
        split at h
        · rename_i e' n xs hh
          cases hn : Nat.beq n y.size with
          | false => rw [hn] at h; exact h.elim
          | true =>
            rw [hn] at h
            obtain ⟨⟨hj0, hj1⟩, hk⟩ := h
            have hv := hev x; rw [hx] at hv
            obtain ⟨bo, ra, rl, rc, hg, ex⟩ := hv.row_inv
            obtain ⟨a', c', vs, hp, hown, hbo, hvs, hlen, h1⟩ := hd.obj o _ _ (lh_row hh) hg
            obtain ⟨kd, hi'⟩ := idx_ok (hev i) hi
            have hk0 := kind_slice htb hl
            obtain ⟨inf, zv, hinf, hsz, _⟩ := (htb e y hy).info
            have hne : inf.size = n := by rw [hsz]; exact (Nat.eq_of_beq_eq_true hn).symm
            injection hp with e1 e2 e3
            rcases hown.2 with ⟨q1, q2⟩ | ⟨g', cap, cur, fz, q1, _⟩
            · exact absurd q2 (by omega)
            · injection q1 with q1 _ _
              subst q1
              refine Pg.mk (m := Instr.indexAt t (a.eval x) (a.eval i)) rfl (v := .pointer (some ⟨g', 0 + j.toNat * n + 0, none⟩)) (fun w' => ?_) (.rowp o n j.toNat 0 g' 0 rl rc bo hg) hk
              rw [ex, hi']
              have hrange : 0 ≤ j ∧ j < (rl : Int) := by rw [e2]; exact ⟨hj0, hj1⟩
              simp only [Instr.indexAt, asIntOf, Sem.run_bind, Sem.run_pure, Result.andThen_ok, run_underlying hk0, Sem.run_ite]
              rw [if_pos hrange]
              simp only [sizeOf_run hinf, Result.andThen_ok, hne, Addr.add_mid]
              rfl
        · exact h.elim
      · exact h.elim
    · exact h.elim
  · -- index
    rename_i t x i
    split at h
    · rename_i sz by_ z hl
      split at h
      · rename_i b j hx hi
        have hv := hev x; rw [hx] at hv
        have e := hv.str_inv
        obtain ⟨kd, hi'⟩ := idx_ok (hev i) hi
        obtain ⟨c, hj0, hc, hk⟩ := h
        have hk0 := kind_str htb hl
        refine Pg.mk (m := Instr.index t (a.eval x) (a.eval i)) rfl (fun w' => ?_) (.int' _ _) hk
        rw [e, hi']
        simp only [Instr.index, asIntOf, Sem.run_bind, Sem.run_pure, Result.andThen_ok, run_underlying hk0]
        rw [if_pos hj0]
        have : (bstr b)[j.toNat]? = some c := by
          obtain ⟨h1, h2⟩ := List.getElem?_eq_some_iff.1 hc
          have hs : j.toNat < (bstr b).size := by rw [bstr_sz]; exact h1
          rw [getElem?_pos (bstr b) j.toNat hs]
          exact congrArg some (show (bstr b)[j.toNat]'hs = c from h2)
        rw [this]
        rfl
      · exact h.elim
    · exact h.elim
  · -- slice
    rename_i t x lo hi
    split at h
    · rename_i sz by_ z b hl hx
      split at h
      · rename_i l k0 hlo hhi
        have hv := hev x; rw [hx] at hv
        have e := hv.str_inv
        have hk0 := kind_str htb hl
        obtain ⟨⟨c1, c2, c3⟩, hk⟩ := h
        refine Pg.mk (m := Instr.sliceAt t (a.eval x) (lo.map a.eval) (hi.map a.eval) none) rfl (v := .string (bstr ((b.drop l.toNat).take (k0.toNat - l.toNat)))) (fun w' => ?_) (.str' _) hk
        rw [e]
        have hr := lo_run (P := P) hev (b := false) hlo hhi c1 c2 c3 (Nat.le_refl _) w'
        simp only [Instr.sliceAt, Instr.slice, Sem.run_bind, run_underlying hk0, Result.andThen_ok, bstr_sz, hr, Option.isSome_none, Bool.false_eq_true, if_false, Sem.run_pure, bstr_extract]
      · exact h.elim
    · rename_i sz by_ z e n xs hl hx
      split at h
      · rename_i l k0 y hlo hhi hy
        cases hn : Nat.beq n y.size with
        | false => rw [hn] at h; exact h.elim
        | true =>
          rw [hn] at h
          have hv := hev x; rw [hx] at hv
          have h0 := hv.list_inv
          have hk0 := kind_slice htb hl
          obtain ⟨⟨c1, c2, c3⟩, hk⟩ := h
          obtain ⟨inf, zv, hinf, hsz, _⟩ := (htb e y hy).info
          have hne : inf.size = n := by rw [hsz]; exact (Nat.eq_of_beq_eq_true hn).symm
          cases ex : a.eval x with
          | slice A len cap =>
            rw [ex] at h0
            have hlen : len = xs.length := by cases h0; assumption
            have hcap : len ≤ cap := by cases h0; assumption
            have hcut := h0.cut (l := l.toNat) (k := k0.toNat) (by omega) (by omega)
            refine Pg.mk (m := Instr.sliceAt t (a.eval x) (lo.map a.eval) (hi.map a.eval) none) rfl (fun w' => ?_) (.rd hcut) hk
            rw [ex]
            have hr := lo_run (P := P) hev (b := true) hlo (by rw [← hlen] at hhi; exact hhi) c1 c2 (by rw [hlen]; exact c3) hcap w'
            simp only [Instr.sliceAt, Instr.slice, Sem.run_bind, run_underlying hk0, Result.andThen_ok, hr, sizeOf_run hinf, Sem.run_pure, hne]
          | _ => rw [ex] at h0; cases h0
      · exact h.elim
    · exact h.elim
  · -- makeInterface
    rename_i t x
    split at h
    · rename_i sz by_ z fs hx hl
      have hv := hev x; rw [hx] at hv
      obtain ⟨vs, e, k1, _⟩ := hv.agg_inv
      have hvs := k1.nil_inv
      subst hvs
      obtain ⟨gs, hu, _⟩ := kind_struct htb hl
      refine Pg.mk (m := Instr.makeInterface t (a.eval x)) rfl (v := .iface t (.agg #[])) (fun w' => ?_) (.ifc t) h
      rw [e]
      simp [Instr.makeInterface, run_underlying hu]
    · exact h.elim
  · -- extract
    rename_i x i
    split at h
    · rename_i ds hx
      split at h
      · rename_i d hl
        have hv := hev x; rw [hx] at hv
        obtain ⟨vs, e, k1⟩ := hv.tup_inv
        rw [ld_get] at hl
        have hlt : i < vs.length := by rw [k1.1]; exact (List.getElem?_eq_some_iff.1 hl).1
        refine Pg.mk (m := Instr.extract (a.eval x) i) rfl (fun w' => ?_) (k1.2 i _ d (List.getElem?_eq_getElem hlt) hl) h
        rw [e]
        simp [Instr.extract, hlt]
      · exact h.elim
    · exact h.elim
  · -- makeFunc
    rename_i f first caps
    have hm : ∀ (i : Nat) v d, (caps.toList.map a.eval)[i]? = some v → (caps.toList.map (ev s))[i]? = some d → Vr I g w v d := fun i v d h1 h2 => by
      rw [List.getElem?_map] at h1 h2
      cases hq : caps.toList[i]? with
      | none => rw [hq] at h1; cases h1
      | some x =>
        rw [hq] at h1 h2
        injection h1 with h1; injection h2 with h2
        subst h1 h2
        exact hev x
    split at h
    · rename_i hf
      have h0 : first = #[] := Array.toList_inj.1 hf
      subst h0
      rw [forceD_eq] at h
      refine Pg.mk (m := Instr.makeFunc (.func f) ((#[] : Array Operand).map a.eval) (caps.map a.eval)) rfl (v := .func (.func f) ((caps.toList.map a.eval).take 0).toArray ((caps.toList.map a.eval).drop 0).toArray) (fun w' => ?_) (.fn f 0 _ _ (by simp) hm) h
      simp only [Instr.makeFunc, Array.map_empty, Sem.run_pure, List.take_zero, List.drop_zero]
      congr 2
      apply Array.toList_inj.1
      simp
    · rename_i x hf
      have h0 : first = #[x] := Array.toList_inj.1 hf
      subst h0
      rw [forceD_eq] at h
      refine Pg.mk (m := Instr.makeFunc (.func f) ((#[x] : Array Operand).map a.eval) (caps.map a.eval)) rfl (v := .func (.func f) ((a.eval x :: caps.toList.map a.eval).take 1).toArray ((a.eval x :: caps.toList.map a.eval).drop 1).toArray) (fun w' => ?_) (.fn f 1 _ _ (by simp) (fun i v d h1 h2 => ?_)) h
      · simp only [Instr.makeFunc, Sem.run_pure, List.take_succ_cons, List.take_zero, List.drop_succ_cons, List.drop_zero]
        have e1 : Array.map a.eval caps = (List.map a.eval caps.toList).toArray := by
          apply Array.toList_inj.1
          simp
        have e2 : Array.map a.eval #[x] = [a.eval x].toArray := by simp
        rw [e1, e2]
      · cases i with
        | zero => simp at h1 h2; subst h1 h2; exact hev x
        | succ i => exact hm i v d (by simpa using h1) (by simpa using h2)
    · exact h.elim
  · -- len
    rename_i args ts
    split at h
    · rename_i x t hargs hts
      have ha : args = #[x] := Array.toList_inj.1 hargs
      have ht : ts = #[t] := Array.toList_inj.1 hts
      subst ha ht
      split at h
      · rename_i sz by_ z hl
        have hk0 := kind_str htb hl
        split at h
        · rename_i b hx
          have hv := hev x; rw [hx] at hv
          refine ⟨.int .i64 (b.length : Int), _, fun w' => ?_, .int' _ _, h⟩
          simp [execOp, resolve, invoke, builtin, Builtin.len_, run_underlying hk0, hv.str_inv, bstr_sz, goInt]
        · exact h.elim
      · rename_i sz by_ z e0 hl
        have hk0 := kind_slice htb hl
        split at h
        · rename_i n hn
          obtain ⟨A, c, e⟩ := lenD_ok hd (hev x) hn
          refine ⟨.int .i64 (n : Int), _, fun w' => ?_, .int' _ _, h⟩
          simp [execOp, resolve, invoke, builtin, Builtin.len_, run_underlying hk0, e, goInt]
        · exact h.elim
      · exact h.elim
    · exact h.elim
  · -- max
    rename_i args ts
    split at h
    · rename_i x y hargs
      have ha : args = #[x, y] := Array.toList_inj.1 hargs
      subst ha
      split at h
      · rename_i i n i' m hx hy
        cases hk : Nat.beq (kno i) (kno i') with
        | false => rw [hk] at h; exact h.elim
        | true =>
          rw [hk] at h
          cases kno_inj hk
          have e1 := hev x; rw [hx] at e1
          have e2 := hev y; rw [hy] at e2
          refine ⟨.int i (if n < m then m else n), _, fun w' => ?_, .int' _ _, h⟩
          simp [execOp, resolve, invoke, builtin, Builtin.max_, e1.int_inv, e2.int_inv, max2_run]
      · exact h.elim
    · exact h.elim
  · rename_i args ts
    split at h
    · rename_i x y hargs
      have ha : args = #[x, y] := Array.toList_inj.1 hargs
      subst ha
      split at h
      · rename_i i n i' m hx hy
        cases hk : Nat.beq (kno i) (kno i') with
        | false => rw [hk] at h; exact h.elim
        | true =>
          rw [hk] at h
          cases kno_inj hk
          have e1 := hev x; rw [hx] at e1
          have e2 := hev y; rw [hy] at e2
          refine ⟨.int i (if m < n then m else n), _, fun w' => ?_, .int' _ _, h⟩
          simp [execOp, resolve, invoke, builtin, Builtin.min_, e1.int_inv, e2.int_inv, min2_run]
      · exact h.elim
    · exact h.elim
  · exact h.elim
end
end Go.Proofs.YtafomdobfmmleaaGreatDoor

/- Walks computed: what is read out of memory, there and in later worlds. No program here. -/
namespace Go.Proofs.YtafomdobfmmleaaGreatDoor
open Go.RowKit
set_option linter.unusedSectionVars false
variable [Old]
set_option linter.unusedVariables false

/-- the object that an operation reads -/
def readsOf (op : Op) (s : S) : Option Nat :=
  match op with
  | .load _ a => match ev s a with
    | .ptr o _ => some o
    | .rowp o _ _ _ => some o
    | _ => none
  | .convert _ _ x => match ev s x with
    | .row o => some o
    | _ => none
  | _ => none
section
variable {P : Program} {Q : Exit → S → Prop}
theorem Dr.bs {I : Nat → Prop} {w : World} {v : Value} {s : List UInt8} (h : Dr I w v (.list 1 (s.map cByte))) (hb : s.length ≤ big) : Bs w v s := by
  generalize hq : (D.list 1 (s.map cByte)) = q at h
  cases h <;> try (cases hq; done)
  rename_i A cap n l xs U hl0 hl hm hnone hlen hA g1 hU
  injection hq with h1 h2
  subst h1 h2
  rw [List.length_map] at hl0
  subst hl0
  refine ⟨⟨A, cap, rfl, fun e => ?_, hl, hm, fun ad had => ?_⟩, hb⟩
  · obtain ⟨e1, e2⟩ := hnone e
    exact ⟨List.eq_nil_of_length_eq_zero e1, e2⟩
  · subst had
    have key : ∀ (j : Nat) u, (cellsB s)[j]? = some u → ad.spot = none ∧ ad.block < w.heap.size ∧ w.cell? (ad.add j) = some u := by
      intro j u hj
      have hlt : j < s.length := by
        rcases Nat.lt_or_ge j s.length with h | h
        · exact h
        · rw [List.getElem?_eq_none (by rw [cellsB_len]; exact h)] at hj; cases hj
      obtain ⟨b, off, e, hbs, hI, hc⟩ := hA (by omega)
      injection e with e
      subst e
      have hx : (s.map cByte)[j]? = some (cByte s[j]) := by simp [hlt]
      have hd := hU j _ 0 (.int .u8 ((s[j]).toNat : Int)) hx rfl
      have hcl := hc j _ 0 (.int .u8 ((s[j]).toNat : Int)) hx rfl
      rw [cellsB_get s j hlt] at hj
      injection hj with hj
      subst hj
      refine ⟨rfl, hbs, ?_⟩
      rw [Addr.add_mid]
      rw [Nat.mul_one, Nat.add_zero] at hcl
      rw [hcl]
      generalize hz : U j 0 = z at hd
      cases hd
      rfl
    exact ⟨fun hne => (key 0 _ (by rw [cellsB_get s 0 (List.length_pos_iff.2 hne)])).2.1, fun j u hj => (key j u hj).2.2⟩
theorem Bs.dr {I : Nat → Prop} {w : World} {v : Value} {s : List UInt8} (h : Bs w v s) (hI : ∀ g, v.ownBlock = some g → s ≠ [] → I g) : Dr I w v (.list 1 (s.map cByte)) := by
  obtain ⟨⟨A, cap, rfl, hn, hc, hm, hr⟩, hl⟩ := h
  refine .list A cap 1 _ _ (fun i _ => (cellsB s).getD i undef) (by simp) hc hm (fun e => ?_) (fun x hx => ?_) (fun h0 => ?_) (fun i x j d hx hj => ?_) (fun i x j d hx hj => ?_)
  · obtain ⟨h1, h2⟩ := hn e
    exact ⟨by rw [h1]; rfl, h2⟩
  · obtain ⟨b, _, rfl⟩ := List.mem_map.1 hx
    rfl
  · cases A with
    | none => have := (hn rfl).1; rw [this] at h0; simp at h0
    | some ad =>
      obtain ⟨k1, k2⟩ := hr ad rfl
      have hne : s ≠ [] := List.length_pos_iff.1 h0
      have c0 := k2 0 _ (cellsB_get s 0 h0)
      have hs : ad.spot = none := by
        cases hq : ad.spot with
        | none => rfl
        | some z =>
          have : ad.add 0 = ad := by simp [Addr.add]
          rw [this] at c0
          unfold World.cell? at c0
          rw [hq] at c0
          split at c0 <;> simp at c0
      obtain ⟨b, off, sp⟩ := ad
      simp only at hs
      subst hs
      refine ⟨b, off, rfl, k1 hne, hI b rfl hne, fun i x j d hx hj => ?_⟩
      have hlt : i < s.length := by have := (List.getElem?_eq_some_iff.1 hx).1; simpa using this
      rw [List.getElem?_map, List.getElem?_eq_getElem hlt] at hx
      injection hx with hx
      subst hx
      have hj0 : j = 0 := by
        cases j with
        | zero => rfl
        | succ j => simp [cByte] at hj
      subst hj0
      have := k2 i _ (cellsB_get s i hlt)
      rw [Addr.add_mid] at this
      rw [Nat.mul_one, Nat.add_zero, this]
      simp [List.getD, cellsB_get s i hlt]
  · have hlt : i < s.length := by have := (List.getElem?_eq_some_iff.1 hx).1; simpa using this
    simp [List.getD, cellsB_get s i hlt, Value.oneCell']
  · have hlt : i < s.length := by have := (List.getElem?_eq_some_iff.1 hx).1; simpa using this
    rw [List.getElem?_map, List.getElem?_eq_getElem hlt] at hx
    injection hx with hx
    subst hx
    have hj0 : j = 0 := by
      cases j with
      | zero => rfl
      | succ j => simp [cByte] at hj
    subst hj0
    simp [cByte] at hj
    subst hj
    simp only [List.getD, cellsB_get s i hlt, Option.getD_some]
    exact .int _ _
/-- where the data's blocks are as they were the value reads as it did -/
theorem Dr.agree {I : Nat → Prop} {w w' : World} {v : Value} {d : D} (h : Dr I w v d) (hI : ∀ b, I b → w'.heap[b]? = w.heap[b]?) : Dr I w' v d := by
  have hlt : ∀ b, I b → b < w.heap.size → b < w'.heap.size := by
    intro b hb hl
    have := hI b hb
    rw [Array.getElem?_eq_getElem hl] at this
    exact (Array.getElem?_eq_some_iff.1 this).1
  induction h with
  | bool b => exact .bool b
  | int k n => exact .int k n
  | str s => exact .str s
  | nils => exact .nils
  | nilp => exact .nilp
  | nilf => exact .nilf
  | nilm => exact .nilm
  | list A cap n l xs U hl0 hl hm hnone hlen hA h1 hU ih =>
    refine .list A cap n l xs U hl0 hl hm hnone hlen (fun h0 => ?_) h1 ih
    obtain ⟨b, off, rfl, hb, hI', hc⟩ := hA h0
    exact ⟨b, off, rfl, hlt b hI' hb, hI', fun i x j d hx1 hj => by rw [World.cell?_of_block (a := ⟨b, off + i * n + j, none⟩) (hI b hI')]; exact hc i x j d hx1 hj⟩
  | own A cap n l xs U hl0 hl hm hnone hlen hA h1 hU ih =>
    refine .own A cap n l xs U hl0 hl hm hnone hlen (fun h0 => ?_) h1 ih
    obtain ⟨b, off, rfl, hb, hI', hN, hF, hc⟩ := hA h0
    exact ⟨b, off, rfl, hlt b hI' hb, hI', hN, fun j hj => by rw [← hF j hj]; simp only [World.frozen?, hI b hI'], fun i x j d hx1 hj => by rw [World.cell?_of_block (a := ⟨b, off + i * n + j, none⟩) (hI b hI')]; exact hc i x j d hx1 hj⟩
  | ref b off cs U hI' hb hc h1 hU ih => exact .ref b off cs U hI' (hlt b hI' hb) (fun j d hj => by rw [World.cell?_of_block (a := ⟨b, off + j, none⟩) (hI b hI')]; exact hc j d hj) h1 ih
  | agg vs ds hl h1 h ih => exact .agg vs ds hl h1 ih
  | tup vs ds hl h ih => exact .tup vs ds hl ih
  | fn f n vs ds hl h ih => exact .fn f n vs ds hl ih
theorem load_part {I : Nat → Prop} {g : Ghost} {w : World} {tb : TT} (htb : tb.ok P) {t : TypeId} {ds : List D} {off : Nat} {d : D} {vs : List Value} (h : partD tb t ds off = some d) (hv : Vrs I g w vs ds) (h1 : ∀ v ∈ vs, v.oneCell' = true) (b base : Nat) :
    ∃ v, Vr I g w v d ∧ ∀ w', (∀ (j : Nat) u, vs[j]? = some u → w'.cell? ⟨b, base + j, none⟩ = some u) → (Instr.loadAt t (.pointer (some ⟨b, base + off, none⟩))).run P w' = .ok v w' := by
  unfold partD at h
  split at h
  · cases h
  · rename_i i hi
    obtain ⟨td, hu, hr⟩ := desc_row htb hi
    obtain ⟨inf, z, hinf, hsz, _⟩ := (htb t i hi).info
    cases hk : i.kind with
    | struct fs =>
      rw [hk] at h hr
      simp only at h
      split at h
      · rename_i r hr'
        injection h with h
        subst h
        rw [dropD_eq] at hr'
        obtain ⟨rfl, hle⟩ := tkD_eq _ _ _ hr'
        have hlen : ((vs.drop off).take i.size).length = i.size := by
          rw [List.length_take, List.length_drop, hv.1]
          rw [List.length_drop] at hle
          omega
        refine ⟨.agg ((vs.drop off).take i.size).toArray, .mkAgg ((hv.drop off).take i.size) (fun v h => h1 v (List.mem_of_mem_drop (List.mem_of_mem_take h))), fun w' hc => ?_⟩
        refine run_loadAt_mid w' b (base + off) t _ td (fun j v hj => ?_) hu (by rw [hr]; rfl) (by rw [hinf, hlen, ← hsz]; rfl)
        rw [List.getElem?_take] at hj
        split at hj
        · rw [List.getElem?_drop] at hj
          rw [Nat.add_assoc]
          exact hc _ v hj
        · cases hj
      · cases h
    | _ =>
      rw [hk] at h hr
      simp only [ld_get] at h
      have hlt : off < vs.length := by rw [hv.1]; exact (List.getElem?_eq_some_iff.1 h).1
      refine ⟨vs[off], hv.2 off _ d (List.getElem?_eq_getElem hlt) h, fun w' hc => ?_⟩
      have := hc off _ (List.getElem?_eq_getElem hlt)
      simp only [Instr.loadAt, Instr.sureAddr, Sem.run_bind, Sem.run_pure, Result.andThen_ok, loadVar, isAgg_run hu, hr]
      simp [TK.isRow, this]
theorem cells_of {I : Nat → Prop} {w : World} : ∀ {b : List UInt8} {vs : List Value}, Drs I w vs (b.map cByte).flatten → vs = cellsB b
  | [], vs, h => List.eq_nil_of_length_eq_zero (by simpa using h.1)
  | x :: b, [], h => by have := h.1; simp [cByte] at this
  | x :: b, v :: vs, h => by
    have h0 := h.2 0 v (.int .u8 (x.toNat : Int)) rfl (by simp [cByte])
    cases h0
    have h2 : Drs I w vs (b.map cByte).flatten := ⟨by have := h.1; simpa [cByte] using this, fun i u d h1 h2 => h.2 (i + 1) u d (by simpa using h1) (by simpa [cByte] using h2)⟩
    rw [cells_of h2]
    rfl
theorem execL_ok [Wd] {E : En} (htb : E.tb.ok P) {s : S} {a : Act} {I : Nat → Prop} {g : Ghost} {w : World} (hev : ∀ x, Vr I g w (a.eval x) (ev s x)) (hd : Den I g w s.h) {o : Oper} {k : D → T} (h : (execL E o.op s k).ok P Q) :
    ∃ v d, (∀ w' : World, (readsOf o.op s = none → ∀ b, I b → w'.heap[b]? = w.heap[b]?) → (∀ n ao p b, readsOf o.op s = some n → s.h[n]? = some ao → g[n]? = some p → ao.owns p b → w'.heap[b]? = w.heap[b]?) → (execOp a.eval o).run P w' = .ok (.value v) w') ∧ Vr I g w v d ∧ (k d).ok P Q := by
  obtain ⟨dst, op, ty, pos, after, guard⟩ := o
  simp only at h
  unfold execL at h
  split at h
  · rename_i t x
    split at h
    · rename_i o off hx
      have hv := hev x; rw [hx] at hv
      obtain ⟨b, bo, hg, e⟩ := hv.ptr_inv
      split at h
      · rename_i ct cs hl
        have hlc := lh_cells hl
        obtain ⟨b', vs, hp, hb, k1, k2⟩ := hd.obj o _ _ hlc hg
        injection hp with hp1 hp2
        injection hp2 with hp2
        injection hp2 with hp2
        injection hp2 with hp2 _ _
        subst hp2
        split at h
        · rename_i d hpd
          obtain ⟨v, r1, r2⟩ := load_part htb hpd k1 k2 b 0
          refine ⟨v, d, fun w' hI ho => ?_, r1, h⟩
          have hn : Blk w' b ct vs.toArray := (ho o _ _ b (by simp only [readsOf, hx]) hlc hg (by show bo = some b; exact hp1)).trans hb
          have := r2 w' (fun j u hj => by
            rw [Nat.zero_add, hn.cell]
            simpa using hj)
          rw [Nat.zero_add] at this
          simp only [execOp, e, Sem.run_bind, this]
          rfl
        · exact h.elim
      · exact h.elim
    · rename_i cs hx
      have hv := hev x; rw [hx] at hv
      have h0 := hv.ref_inv
      split at h
      · rename_i d hpd
        cases e : a.eval x with
        | pointer pa =>
          rw [e] at h0
          cases h0 with
          | ref b off cs U hI hb hc g1 hU =>
            have hvs : Vrs I g w ((List.range cs.length).map U) cs := by
              refine ⟨by simp, fun i v d h1 h2 => ?_⟩
              have hlt : i < cs.length := (List.getElem?_eq_some_iff.1 h2).1
              rw [List.getElem?_map, List.getElem?_range hlt] at h1
              injection h1 with h1
              subst h1
              exact .rd (hU i d h2)
            obtain ⟨v, r1, r2⟩ := load_part htb hpd hvs (fun v hv => by
              obtain ⟨i, hi, rfl⟩ := List.mem_map.1 hv
              have hlt : i < cs.length := by simpa using hi
              exact g1 i _ (List.getElem?_eq_getElem hlt)) b off
            refine ⟨v, d, fun w' hI' ho => ?_, r1, h⟩
            have := r2 w' (fun j u hj => by
              rw [List.getElem?_map] at hj
              cases hr : (List.range cs.length)[j]? with
              | none => rw [hr] at hj; cases hj
              | some j' =>
                rw [hr] at hj
                injection hj with hj
                have hlt : j < cs.length := by
                  have := (List.getElem?_eq_some_iff.1 hr).1
                  simpa using this
                rw [List.getElem?_range hlt] at hr
                injection hr with hr
                subst hr hj
                rw [World.cell?_of_block (a := ⟨b, off + j, none⟩) (hI' (by simp only [readsOf, hx]) b hI)]
                exact hc j _ (List.getElem?_eq_getElem hlt))
            rw [Nat.add_zero] at this
            simp only [execOp, e, Sem.run_bind, this]
            rfl
        | _ => rw [e] at h0; cases h0
      · exact h.elim
    · rename_i o n i off hx
      have hv := hev x; rw [hx] at hv
      obtain ⟨bo, b, base, l, c, hg, e⟩ := hv.rowp_inv
      split at h
      · rename_i ct m xs hh
        cases hn : Nat.beq n m with
        | false => rw [hn] at h; exact h.elim
        | true =>
          rw [hn] at h
          cases Nat.eq_of_beq_eq_true hn
          obtain ⟨x0, hj0, hc, hk⟩ := h
          rw [Int.toNat_natCast] at hc
          dsimp only at hk
          split at hk
          · rename_i d hpd
            have hlr := lh_row hh
            obtain ⟨a', c', vs, hp, hown, hbo, hvs, hlen, h1⟩ := hd.obj o _ _ hlr hg
            have hseg := flat_seg xs hlen i x0 hc
            have hus : Vrs I g w ((vs.drop (i * n)).take n) x0 := by
              have := (hvs.vrs (g := g).drop (i * n)).take n
              rwa [hseg] at this
            obtain ⟨v, r1, r2⟩ := load_part htb hpd hus (fun v hv => h1 v (List.mem_of_mem_drop (List.mem_of_mem_take hv))) b (base + i * n)
            refine ⟨v, d, fun w' hI ho => ?_, r1, hk⟩
            have hown' : OwnM w' ct n (.slice (some ⟨b, base, none⟩) l c) xs.length vs := by
              refine ⟨hown.1, ?_⟩
              rcases hown.2 with q | ⟨g', cap, cur, fz, q1, q2, q3⟩
              · exact .inl q
              · refine .inr ⟨g', cap, cur, fz, q1, (ho o _ _ g' (by simp only [readsOf, hx]) hlr hg ?_).trans q2, q3⟩
                show bo = some g'
                rw [show bo = _ from hbo, q1]; rfl
            have := r2 w' (fun j u hj => by
              rw [List.getElem?_take] at hj
              split at hj
              · rw [List.getElem?_drop] at hj
                obtain ⟨_, A, cap, hv2, _, _, hA⟩ := hown'.rd
                injection hv2 with hv2 _ _
                have := (hA _ hv2.symm).2 (i * n + j) u hj
                rw [Addr.add_mid] at this
                rw [Nat.add_assoc]
                exact this
              · cases hj)
            simp only [execOp, e, Sem.run_bind, this]
            rfl
          · exact hk.elim
      · exact h.elim
    · exact h.elim
  · rename_i src dst' x
    split at h
    · rename_i sz by_ z e0 sz' by' z' xs hs hdst hx
      split at h
      · rename_i sz2 by2 z2 he
        obtain ⟨b, rfl, hbig, hk⟩ := h
        have hv := hev x; rw [hx] at hv
        have h0 := hv.list_inv
        have k1 := kind_slice htb hs
        have k2 := kind_str htb hdst
        have k3 := kind_int htb he
        refine ⟨.string (bstr b), _, fun w' hI' ho => ?_, .str' _, hk⟩
        have hbs : Bs w' (a.eval x) b := (h0.agree (hI' (by simp only [readsOf, hx]))).bs hbig
        have := hbs.conv (P := P) k1 k3 k2
        simp only [execOp, Sem.run_bind, this]
        rfl
      · exact h.elim
    · rename_i sz by_ z e0 sz' by' z' o hs hdst hx
      split at h
      · rename_i sz2 by2 z2 et xs he hh
        obtain ⟨b, rfl, hbig, hk⟩ := h
        have hv := hev x; rw [hx] at hv
        obtain ⟨bo, ra, rl, rc, hg, ex⟩ := hv.row_inv
        have hlc := lh_row hh
        obtain ⟨a', c', vs, hp, hown, hbo, hvs, hlen, h1⟩ := hd.obj o _ _ hlc hg
        have k1 := kind_slice htb hs
        have k2 := kind_str htb hdst
        have k3 := kind_int htb he
        rw [cells_of hvs, List.length_map] at hown
        have d0 : Dr (fun g => (Value.slice ra rl rc).ownBlock = some g) w (.slice ra rl rc) (.list 1 (b.map cByte)) := (OwnM.bs hown hbig).dr (fun g hg _ => hg)
        refine ⟨.string (bstr b), _, fun w' hI' ho => ?_, .str' _, hk⟩
        have hbs : Bs w' (a.eval x) b := by
          rw [ex]
          exact (d0.agree (fun g hg' => ho o _ _ g (by simp only [readsOf, hx]) hlc hg (by show bo = some g; exact hbo.trans hg'))).bs hbig
        have := hbs.conv (P := P) k1 k3 k2
        simp only [execOp, Sem.run_bind, this]
        rfl
      · exact h.elim
    · exact h.elim
  · exact h.elim
end
end Go.Proofs.YtafomdobfmmleaaGreatDoor

/- Walks computed: operations that change memory, and calls. No program here. -/
namespace Go.Proofs.YtafomdobfmmleaaGreatDoor
open Go.RowKit
set_option linter.unusedSectionVars false
variable [Old]
set_option linter.unusedVariables false

theorem sh_eq : ∀ (h : List AO) (o : Nat) (x : AO), sh h o x = h.set o x
  | [], o, x => rfl
  | a :: l, 0, x => rfl
  | a :: l, n + 1, x => by simp [sh, sh_eq l n x]
/-- more is held to be data -/
theorem Den.inns {I I' : Nat → Prop} {g : Ghost} {w : World} {h : List AO} (hd : Den I g w h) (hI : ∀ b, I b → I' b) (h1 : ∀ b, I' b → b < w.heap.size) (h2 : ∀ b, I' b → ¬ Owned g h b) : Den I' g w h :=
  ⟨hd.len, h1, fun o ao p a b => (hd.obj o ao p a b).mono hI (fun _ _ h => h), fun o ao p b a1 a2 a3 hb => h2 b hb ⟨o, ao, p, a1, a2, a3⟩, hd.sep⟩
theorem Af.push {I : Nat → Prop} {g : Ghost} {w w' : World} {h : List AO} {M : List Nat} (hd : Den I g w h) (hb : B w w') {p : Option Nat × Value} {ao : AO} (hr : Ro I (g ++ [p]) w' p ao) (hn : ∀ b, ao.owns p b → w.heap.size ≤ b) : Af I g w h M I (g ++ [p]) w' (h ++ [ao]) where
  den := hd.push hb hr hn
  ext := Ext.of_B hb
  i1 _ h := h
  i2 _ h := .inl h
  gx _ _ h := get_old h
  fr o ho _ := List.getElem?_append_left ho
  al o a q b ho h1 h2 h3 := ⟨a, by rw [← h1, List.getElem?_append_left ho], h3⟩
  nw o a q b ho h1 h2 h3 := by
    rcases get_push h1 with ⟨e1, _⟩ | ⟨e1, k1⟩
    · omega
    · rcases get_push h2 with ⟨e2, _⟩ | ⟨e2, k2⟩
      · have := hd.len; omega
      · subst k1 k2; exact .inr (hn b h3)
/-- a new object of cells: its ghost -/
def gp (w : World) : Option Nat × Value := (some w.heap.size, .pointer (some ⟨w.heap.size, 0, none⟩))
theorem Af.cells {I : Nat → Prop} {g : Ghost} {w w' : World} {h : List AO} {M : List Nat} {e : TypeId} {vs : List Value} {cs : List D} (hd : Den I g w h) (hb : B w w') (hk : Blk w' w.heap.size e vs.toArray) (hv : Vrs I (g ++ [gp w]) w' vs cs) (h1 : ∀ v ∈ vs, v.oneCell' = true) : Af I g w h M I (g ++ [gp w]) w' (h ++ [.cells e cs]) :=
  Af.push hd hb (p := gp w) (ao := .cells e cs) ⟨w.heap.size, vs, rfl, hk, hv, h1⟩ (fun b hb => by
    have : some w.heap.size = some b := hb
    injection this with this
    omega)
theorem Vr.newPtr {I I' : Nat → Prop} {g : Ghost} {w w' : World} {h : List AO} (hd : Den I g w h) : Vr I' (g ++ [gp w]) w' (.pointer (some ⟨w.heap.size, 0, none⟩)) (.ptr h.length 0) :=
  .ptr _ 0 w.heap.size (some w.heap.size) (by rw [← hd.len]; exact getD_len _ _)
theorem Vr.newRow {I I' : Nat → Prop} {g : Ghost} {w w' : World} {h : List AO} (hd : Den I g w h) {bo : Option Nat} {a : Option Addr} {l c : Nat} : Vr I' (g ++ [(bo, .slice a l c)]) w' (.slice a l c) (.row h.length) :=
  .row _ bo _ _ _ (by rw [← hd.len]; exact getD_len _ _)
theorem Blk.setCells {t : TypeId} {b : Nat} : ∀ (us vs : List Value) (o : Nat) {w : World}, Blk w b t vs.toArray → Blk (w.setCells b o us) b t (setVs vs o us).toArray
  | [], vs, o, w, h => h
  | u :: us, vs, o, w, h => by
    rw [World.setCells, setVs]
    refine Blk.setCells us _ (o + 1) ?_
    have := h.set_ o u
    simpa using this
theorem Ext.setCells {b : Nat} : ∀ (us : List Value) (o : Nat) {w : World}, Ext (fun x => x = b) w (w.setCells b o us)
  | [], o, w => Ext.refl _ _
  | u :: us, o, w => by
    rw [World.setCells]
    exact ((Ext.refl (fun x => x = b) w).set (p := ⟨b, o, none⟩) (fun _ => rfl) u).trans_ (Ext.setCells us (o + 1))
/-- an object turned in place -/
theorem Den.setObj {I : Nat → Prop} {g : Ghost} {w w' : World} {h : List AO} (hd : Den I g w h) {o : Nat} {ao ao' : AO} {p : Option Nat × Value} (ho : h[o]? = some ao) (hp : g[o]? = some p) (hx : Ext (fun b => ao.owns p b) w w') (hs : ∀ b, ao'.owns p b → ao.owns p b) (hr : Ro I g w' p ao') : Den I g w' (h.set o ao') := by
  have hI : ∀ b, I b → ¬ ao.owns p b := fun b hb ho' => hd.own o ao p b ho hp ho' hb
  have key : ∀ {i : Nat} {a : AO}, (h.set o ao')[i]? = some a → (i = o ∧ a = ao') ∨ (i ≠ o ∧ h[i]? = some a) := by
    intro i a hi
    rw [List.getElem?_set] at hi
    split at hi
    · rename_i e
      split at hi
      · injection hi with q; exact .inl ⟨e.symm, q.symm⟩
      · cases hi
    · rename_i e; exact .inr ⟨fun q => e q.symm, hi⟩
  refine ⟨by simp [hd.len], fun b hb => Nat.lt_of_lt_of_le (hd.inn b hb) hx.size, fun i a q h1 h2 => ?_, fun i a q b h1 h2 h3 hb => ?_, fun i i' a a' q q' b h1 h1' h2 h2' h3 h3' => ?_⟩
  · rcases key h1 with ⟨rfl, rfl⟩ | ⟨e, k⟩
    · rw [hp] at h2; injection h2 with h2; subst h2; exact hr
    · exact (hd.obj i a q k h2).ext hx hI (fun b hb hb' => e (hd.sep i o a ao q p b k ho h2 hp hb hb'))
  · rcases key h1 with ⟨rfl, rfl⟩ | ⟨e, k⟩
    · rw [hp] at h2; injection h2 with h2; subst h2
      exact hI b hb (hs b h3)
    · exact hd.own i a q b k h2 h3 hb
  · rcases key h1 with ⟨rfl, rfl⟩ | ⟨e, k⟩ <;> rcases key h1' with ⟨rfl, rfl⟩ | ⟨e', k'⟩
    · rfl
    · rw [hp] at h2; injection h2 with h2; subst h2
      exact hd.sep _ i' ao a' p q' b ho k' hp h2' (hs b h3) h3'
    · rw [hp] at h2'; injection h2' with h2'; subst h2'
      exact hd.sep i _ a ao q p b k ho h2 hp h3 (hs b h3')
    · exact hd.sep i i' a a' q q' b k k' h2 h2' h3 h3'
theorem flat_get {α : Type} {n : Nat} (hn : 0 < n) : ∀ (ys : List (List α)), (∀ y ∈ ys, y.length = n) → ∀ (q : Nat) (x : α), ys.flatten[q]? = some x → ∃ y, ys[q / n]? = some y ∧ y[q % n]? = some x
  | [], _, q, x, h => by simp at h
  | y :: ys, hl, q, x, h => by
    have hy := hl y (by simp)
    rw [List.flatten_cons, List.getElem?_append] at h
    split at h
    · rename_i hlt
      rw [hy] at hlt
      exact ⟨y, by rw [Nat.div_eq_of_lt hlt]; rfl, by rw [Nat.mod_eq_of_lt hlt]; exact h⟩
    · rename_i hge
      rw [hy] at hge h
      obtain ⟨z, h1, h2⟩ := flat_get hn ys (fun y h => hl y (by simp [h])) (q - n) x h
      have e : q = q - n + n := by omega
      refine ⟨z, ?_, ?_⟩
      · rw [e, Nat.add_div_right _ hn]
        simpa using h1
      · rw [e, Nat.add_mod_right]; exact h2
theorem flatD_len {α : Type} {n : Nat} : ∀ (ys : List (List α)), (∀ y ∈ ys, y.length = n) → ys.flatten.length = ys.length * n
  | [], _ => by simp
  | y :: ys, hl => by
    rw [List.flatten_cons, List.length_append, flatD_len ys (fun y h => hl y (by simp [h])), hl y (by simp), List.length_cons, Nat.add_mul]
    omega
/-- a list read cell by cell -/
theorem Dr.rows {I : Nat → Prop} {w : World} {u : Value} {n : Nat} {ys : List (List D)} (hn : 0 < n) (h : Dr I w u (.list n ys)) : ∃ news, Rd w u ys.length n news ∧ (∀ x ∈ news, x.oneCell' = true) ∧ Drs I w news ys.flatten := by
  cases h with
  | list A cap n l xs U hl0 hl hm hnone hlen hA g1 hU =>
    have hfl := flatD_len ys hlen
    have hV : ∀ (q : Nat), q < ys.length * n → ∃ y x, ys[q / n]? = some y ∧ y[q % n]? = some x ∧ ys.flatten[q]? = some x := by
      intro q hq
      have hx := List.getElem?_eq_getElem (l := ys.flatten) (i := q) (by rw [hfl]; exact hq)
      obtain ⟨y, h1, h2⟩ := flat_get hn ys hlen q _ hx
      exact ⟨y, _, h1, h2, hx⟩
    refine ⟨(List.range (ys.length * n)).map (fun q => U (q / n) (q % n)), ⟨by simp, A, cap, by rw [hl0], fun e => by rw [← hl0]; exact hnone e, by omega, fun ad had => ⟨fun h0 => ?_, fun j x hj => ?_⟩⟩, fun x hx => ?_, ⟨by simp [hfl], fun i v d h1 h2 => ?_⟩⟩
    · obtain ⟨b, off, e, hb, _, _⟩ := hA (by omega)
      rw [had] at e
      injection e with e
      subst e
      exact hb
    · have hlt : j < ys.length * n := by have := (List.getElem?_eq_some_iff.1 hj).1; simpa using this
      rw [List.getElem?_map, List.getElem?_range hlt] at hj
      injection hj with hj
      subst hj
      have hpos : 0 < ys.length := by
        rcases Nat.eq_zero_or_pos ys.length with e | e
        · rw [e] at hlt; simp at hlt
        · exact e
      obtain ⟨b, off, e, hb, _, hc⟩ := hA (by omega)
      rw [had] at e
      injection e with e
      subst e
      obtain ⟨y, x, h1, h2, _⟩ := hV j hlt
      have := hc (j / n) y (j % n) x h1 h2
      rw [Addr.add_mid]
      rw [← this]
      congr 2
      have := Nat.div_add_mod j n
      rw [Nat.mul_comm] at this
      omega
    · obtain ⟨q, hq, rfl⟩ := List.mem_map.1 hx
      obtain ⟨y, x, h1, h2, _⟩ := hV q (by simpa using hq)
      exact g1 _ _ _ _ h1 h2
    · have hlt : i < ys.length * n := by have := (List.getElem?_eq_some_iff.1 h1).1; simpa using this
      rw [List.getElem?_map, List.getElem?_range hlt] at h1
      injection h1 with h1
      subst h1
      obtain ⟨y, x, k1, k2, k3⟩ := hV i hlt
      rw [k3] at h2
      injection h2 with h2
      subst h2
      exact hU _ _ _ _ k1 k2
section
variable {P : Program} {Q : Exit → S → Prop}
theorem callFunc_run {f : FuncId} (h : calleeOk P f = true) (args : Array Value) (w : World) : (callFunc f args).run P w = .ok (.enter f args) w := by
  unfold calleeOk at h
  split at h
  · rename_i fn hf
    rw [Bool.and_eq_true] at h
    have h1 : (fn.name == "runtime.NumGoroutine") = false := by simpa using h.1
    have h2 : fn.body.isNone = false := by
      cases hb : fn.body with
      | none => rw [hb] at h; simp at h
      | some c => rfl
    unfold callFunc
    simp only [Sem.run_bind, run_program, Result.andThen_ok, hf, h1, h2]
    rfl
  · cases h
/-- what 'execW' gives -/
def Ef [Wd] (P : Program) (I : Nat → Prop) (g : Ghost) (w : World) (ρ : Operand → Value) (o : Oper) (s : S) (Q : Exit → S → Prop) (k : D → S → T) : Prop :=
  (∃ v w' I' g' d s', ((execOp ρ o).run P w = .ok (.value v) w' ∨ ((execOp ρ o).run P w = .ok .skip w' ∧ v = undef)) ∧ s'.t = s.t ∧ Af I g w s.h (modsOf o.op s) I' g' w' s'.h ∧ Vr I' g' w' v d ∧ (k d s').ok P Q) ∨
  (∃ f vs, (execOp ρ o).run P w = .ok (.enter f vs) w ∧ Calls P f vs w fun e w' => (∃ v I' g' d h', e = .returned v ∧ Af I g w s.h (modsOf o.op s) I' g' w' h' ∧ Vr I' g' w' v d ∧ (k d { s with h := h' }).ok P Q) ∨ (∃ ch, e = .panicked ch ∧ Wd.pan ch ∧ Ext (OwnedIn (modsOf o.op s) g s.h) w w')) ∨
  (∃ v, (execOp ρ o).run P w = .halt (.panic v) w ∧ Wd.pan [{ v := v, recovered := false }])
theorem newVar_run (t : TypeId) (v : Value) (w : World) : (newVar t v).run P w = .ok ⟨w.heap.size, 0, none⟩ (w.alloc (.cells v.cells t)) := by
  simp [newVar, newRow]
theorem zero_run {t : TypeId} {inf : TypeInfo} {z : Value} (hi : P.info? t = some inf) (hz : inf.zero = some z) (w : World) : (zeroValue t).run P w = .ok z w := by
  simp [zeroValue, typeInfo, hi, hz]
theorem row_Rd {w : World} {sz n : Nat} {e : TypeId} {v : Value} {xs : List Value} (h : OwnM w e sz v n xs) : ∃ a c, v = .slice a n c := h.slice
/-- a slice's elements, read -/
theorem rowsD_ok {I : Nat → Prop} {g : Ghost} {w : World} {h : List AO} (hd : Den I g w h) {u : Value} {d : D} {n : Nat} {ys : List (List D)} (hn : 0 < n) (hv : Vr I g w u d) (hr : rowsD h n d = some ys) :
    ∃ news, Rd w u ys.length n news ∧ (∀ x ∈ news, x.oneCell' = true) ∧ Drs I w news ys.flatten ∧ ∀ y ∈ ys, y.length = n := by
  unfold rowsD at hr
  split at hr
  · rename_i m zs
    cases hm : Nat.beq m n with
    | false => rw [hm] at hr; cases hr
    | true =>
      rw [hm] at hr
      injection hr with hr
      subst hr
      cases Nat.eq_of_beq_eq_true hm
      have hu := hv.list_inv
      obtain ⟨news, h1, h2, h3⟩ := Dr.rows hn hu
      refine ⟨news, h1, h2, h3, ?_⟩
      cases hu with
      | list A cap n l xs U hl0 hl hm hnone hlen hA g1 hU => exact hlen
  · injection hr with hr
    subst hr
    rw [hv.nils_inv]
    exact ⟨[], ⟨by simp, none, 0, rfl, fun _ => ⟨rfl, rfl⟩, Nat.le_refl _, fun ad h => by cases h⟩, by simp, .nil, by simp⟩
  · rename_i o
    split at hr
    · rename_i t m zs hh
      cases hm : Nat.beq m n with
      | false => rw [hm] at hr; cases hr
      | true =>
        rw [hm] at hr
        injection hr with hr
        subst hr
        cases Nat.eq_of_beq_eq_true hm
        obtain ⟨bo, ra, rl, rc, hg, rfl⟩ := hv.row_inv
        obtain ⟨a', c', vs, hp, hown, hbo, hvs, hlen, h1⟩ := hd.obj o _ _ (lh_row hh) hg
        exact ⟨vs, hown.rd, h1, hvs, hlen⟩
    · cases hr
  · cases hr
/-- the row that an append has left is one's own -/
theorem appd_of {I : Nat → Prop} {g : Ghost} {w : World} {h : List AO} (hd : Den I g w h) {e : TypeId} {sz : Nat} {v : Value} {xs ys : List (List D)} {vs : List Value} {news : List Value} (g1 : ∀ x ∈ news, x.oneCell' = true) (hnv : Drs I w news ys.flatten) (hys : ∀ y ∈ ys, y.length = sz)
    (hvs : Drs I w vs xs.flatten) (hlen : ∀ x ∈ xs, x.length = sz) (h1 : ∀ x ∈ vs, x.oneCell' = true) (hO : ∀ b, v.ownBlock = some b → ¬ I b ∧ ¬ Owned g h b)
    {v' : Value} {w' : World} (r2 : OwnM w' e sz v' (xs.length + ys.length) (vs ++ news)) (r3 : w.grownBy w' v.ownBlock) (r4 : v'.ownBlock = v.ownBlock ∨ v'.ownBlock = some w.heap.size) :
    Den I (g ++ [(v'.ownBlock, v')]) w' (h ++ [.row e sz (xs ++ ys)]) ∧ (∃ a l c, v' = .slice a l c) := by
  have hx : Ext (fun b => some b = v.ownBlock) w w' := (Ext.refl _ w).grown r3 (fun b e _ => e.symm)
  have hd' : Den I g w' h := hd.ext hx (fun b hb e => (hO b e.symm).1 hb) (fun b hb e => (hO b e.symm).2 hb)
  have hI' : ∀ b, I b → ¬ some b = v.ownBlock := fun b hb e => (hO b e.symm).1 hb
  obtain ⟨a, c, hv'⟩ := row_Rd r2
  refine ⟨hd'.push' ⟨a, c, vs ++ news, ?_, ?_, rfl, ?_, ?_, ?_⟩ (fun b hb => ?_), ⟨a, _, c, hv'⟩⟩
  · rw [List.length_append]; exact hv'
  · rw [List.length_append]; exact r2
  · rw [List.flatten_append]
    exact (hvs.append hnv).ext hx hI'
  · intro x hx
    rcases List.mem_append.1 hx with e | e
    · exact hlen x e
    · exact hys x e
  · intro x hx
    rcases List.mem_append.1 hx with e | e
    · exact h1 x e
    · exact g1 x e
  · have hb' : v'.ownBlock = some b := hb
    rcases r4 with e | e
    · rw [e] at hb'; exact hO b hb'
    · rw [e] at hb'
      injection hb' with hb'
      subst hb'
      exact ⟨fun hI => Nat.lt_irrefl _ (hd.inn _ hI), fun ho => Nat.lt_irrefl _ (hd.lt ho)⟩
/-- append onto a row of one's own, or onto nothing -/
theorem appd_ok {I : Nat → Prop} {g : Ghost} {w : World} {h : List AO} (hd : Den I g w h) {tb : TT} (htb : tb.ok P) {t e : TypeId} {i : TyI} {sz by_ : Nat} {z : List D} (ht : tb.look t = some ⟨sz, by_, z, .slice e⟩) (he : tb.look e = some i) {v u : Value} {xs ys : List (List D)} {vs : List Value} (hpos : 0 < i.size) {news : List Value} (hr : Rd w u ys.length i.size news) (g1 : ∀ x ∈ news, x.oneCell' = true) (hnv : Drs I w news ys.flatten) (hys : ∀ y ∈ ys, y.length = i.size)
    (hown : OwnM w e i.size v xs.length vs) (hvs : Drs I w vs xs.flatten) (hlen : ∀ x ∈ xs, x.length = i.size) (h1 : ∀ x ∈ vs, x.oneCell' = true) (hO : ∀ b, v.ownBlock = some b → ¬ I b ∧ ¬ Owned g h b) (h63 : xs.length + ys.length ≤ maxLen) (hroom : (xs.length + ys.length) * i.bytes ≤ 140737488355328) (ty : TypeId) :
    ∃ v' w', (Builtin.append_ #[t, t] ty #[v, u]).run P w = .ok v' w' ∧ w.grownBy w' v.ownBlock ∧ Den I (g ++ [(v'.ownBlock, v')]) w' (h ++ [.row e i.size (xs ++ ys)]) ∧ (∃ a l c, v' = .slice a l c) ∧ (v'.ownBlock = v.ownBlock ∨ v'.ownBlock = some w.heap.size) := by
  have hk := kind_slice htb ht
  obtain ⟨inf, zv, hinf, hsz, hby, hz, hzo, hzs, hzr⟩ := (htb e i he).info
  obtain ⟨v', w', r1, r2, r3, r4⟩ := append_M (P := P) (t := t) (ty := ty) hk (z := zv) (sz := i.size) (bytes := i.bytes) (by rw [hinf]; simp [hz, hsz, hby]) hzs hpos hown hr g1 h63 hroom
  obtain ⟨k1, k2⟩ := appd_of hd g1 hnv hys hvs hlen h1 hO r2 r3 r4
  exact ⟨v', w', r1, r3, k1, k2, r4⟩
theorem cells_dr {I : Nat → Prop} {w : World} : ∀ b : List UInt8, Drs I w (cellsB b) (b.map cByte).flatten
  | [] => .nil
  | x :: b => Drs.append (vs := [Value.int .u8 (x.toNat : Int)]) (ds := cByte x) ⟨rfl, fun i v d h1 h2 => by
      match i with
      | 0 => cases h1; cases h2; exact .int .u8 _
      | i + 1 => simp at h1⟩ (cells_dr b)
theorem strCells_bstr (b : List UInt8) : Lib.strCells (bstr b) = cellsB b := rfl
/-- append of a string's bytes -/
theorem appds_ok {I : Nat → Prop} {g : Ghost} {w : World} {h : List AO} (hd : Den I g w h) {tb : TT} (htb : tb.ok P) {t t' e : TypeId} {sz by_ sz' by' sz2 by2 : Nat} {z z' z2 : List D} (ht : tb.look t = some ⟨sz, by_, z, .slice e⟩) (ht' : tb.look t' = some ⟨sz', by', z', .str⟩) (he : tb.look e = some ⟨sz2, by2, z2, .int .u8⟩) (hs1 : sz2 = 1) {v : Value} {xs : List (List D)} {b : List UInt8} {vs : List Value}
    (hown : OwnM w e 1 v xs.length vs) (hvs : Drs I w vs xs.flatten) (hlen : ∀ x ∈ xs, x.length = 1) (h1 : ∀ x ∈ vs, x.oneCell' = true) (hO : ∀ b, v.ownBlock = some b → ¬ I b ∧ ¬ Owned g h b) (h63 : xs.length + b.length ≤ maxLen) (hroom : (xs.length + b.length) * by2 ≤ 140737488355328) (ty : TypeId) :
    ∃ v' w', (Builtin.append_ #[t, t'] ty #[v, .string (bstr b)]).run P w = .ok v' w' ∧ w.grownBy w' v.ownBlock ∧ Den I (g ++ [(v'.ownBlock, v')]) w' (h ++ [.row e 1 (xs ++ b.map cByte)]) ∧ (∃ a l c, v' = .slice a l c) ∧ (v'.ownBlock = v.ownBlock ∨ v'.ownBlock = some w.heap.size) := by
  subst hs1
  have hk := kind_slice htb ht
  have hk' := kind_str htb ht'
  obtain ⟨inf, zv, hinf, hsz, hby, hz, hzo, hzs, hzr⟩ := (htb e _ he).info
  obtain ⟨v', w', r1, r2, r3, r4⟩ := append_MS (P := P) (t := t) (u := t') (ty := ty) hk hk' (z := zv) (bytes := by2) (by rw [hinf]; simp [hz, hsz, hby]) hzs (s := bstr b) hown (by rw [bstr_sz]; exact h63) (by rw [bstr_sz]; exact hroom)
  rw [bstr_sz, strCells_bstr] at r2
  obtain ⟨k1, k2⟩ := appd_of hd (xs := xs) (ys := b.map cByte) (cellsB_one b) (cells_dr b) (by intro y hy; obtain ⟨x, _, rfl⟩ := List.mem_map.1 hy; rfl) hvs hlen h1 hO (by rw [List.length_map]; exact r2) r3 r4
  exact ⟨v', w', r1, r3, k1, k2, r4⟩
end
theorem Dr.of_row {I : Nat → Prop} {w : World} {t : TypeId} {n : Nat} {v : Value} {xs : List (List D)} {vs : List Value} (hr : OwnM w t n v xs.length vs) (hd : Drs I w vs xs.flatten) (hl : ∀ x ∈ xs, x.length = n) (h1 : ∀ v ∈ vs, v.oneCell' = true) (hI : ∀ b, v.ownBlock = some b → I b) : Dr I w v (.list n xs) := by
  have hfl := flatD_len xs hl
  have key : ∀ (i : Nat) x (j : Nat) d, xs[i]? = some x → x[j]? = some d → i * n + j < xs.length * n ∧ xs.flatten[i * n + j]? = some d := by
    intro i x j d hx hj
    have hi := (List.getElem?_eq_some_iff.1 hx).1
    have hxl := hl x (List.mem_of_getElem? hx)
    have hjl := (List.getElem?_eq_some_iff.1 hj).1
    have hlt : i * n + j < xs.length * n := by
      have h2 : (i + 1) * n ≤ xs.length * n := Nat.mul_le_mul_right n hi
      rw [Nat.add_mul, Nat.one_mul] at h2
      omega
    refine ⟨hlt, ?_⟩
    have h3 := List.getElem?_eq_getElem (l := xs.flatten) (i := i * n + j) (by rw [hfl]; exact hlt)
    obtain ⟨y, e1, e2⟩ := flat_get (by omega) xs hl _ _ h3
    have d1 : (i * n + j) / n = i := by
      rw [Nat.mul_comm, Nat.mul_add_div (by omega), Nat.div_eq_of_lt (by omega)]
      rfl
    have d2 : (i * n + j) % n = j := by
      rw [Nat.mul_comm, Nat.mul_add_mod, Nat.mod_eq_of_lt (by omega)]
    rw [d1, hx] at e1
    injection e1 with e1
    subst e1
    rw [d2, hj] at e2
    rw [h3, ← e2]
  obtain ⟨hlen, hcase⟩ := hr
  have hvd : ∀ (i : Nat) x (j : Nat) d, xs[i]? = some x → x[j]? = some d → ∃ u, vs[i * n + j]? = some u := fun i x j d hx hj => ⟨_, List.getElem?_eq_getElem (by have := (key i x j d hx hj).1; omega)⟩
  rcases hcase with ⟨rfl, h0⟩ | ⟨g, cap, cur, fz, rfl, hh, hf, hc, hm, hs, ht⟩
  · have hx0 : xs = [] := List.eq_nil_of_length_eq_zero h0
    subst hx0
    exact .list none 0 n 0 [] (fun _ _ => undef) rfl (Nat.le_refl _) (Nat.zero_le _) (fun _ => ⟨rfl, rfl⟩) (by simp) (fun h => by simp at h) (by simp) (by simp)
  · refine .list _ cap n _ xs (fun i j => vs.getD (i * n + j) undef) rfl hc hm (fun e => by cases e) hl (fun h0 => ⟨g, 0, rfl, at_lt hh, hI g rfl, fun i x j d hx hj => ?_⟩) (fun i x j d hx hj => ?_) (fun i x j d hx hj => ?_)
    · obtain ⟨u, hu⟩ := hvd i x j d hx hj
      have hk := (key i x j d hx hj).1
      rw [Nat.zero_add, cell_of_row w g _ cur t fz hh]
      have : cur[i * n + j]? = vs[i * n + j]? := by
        rw [← ht, List.getElem?_take, if_pos hk, Array.getElem?_toList]
      rw [this, hu]
      simp [List.getD, hu]
    · obtain ⟨u, hu⟩ := hvd i x j d hx hj
      simp only [List.getD, hu, Option.getD_some]
      exact h1 u (List.mem_of_getElem? hu)
    · obtain ⟨u, hu⟩ := hvd i x j d hx hj
      simp only [List.getD, hu, Option.getD_some]
      exact hd.2 _ u d hu (key i x j d hx hj).2
/-- a list that needs no block of old -/
theorem Dr.colour {I : Nat → Prop} {w : World} {v : Value} {n : Nat} {xs : List (List D)} (h : Dr I w v (.list n xs)) (hN : ∀ b, v.ownBlock = some b → ¬ Old.A b) (hF : ∀ b off l c, v = .slice (some ⟨b, off, none⟩) l c → ∀ j, j < l * n → w.frozen? ⟨b, off + j, none⟩ = false) : Dr I w v (.own n xs) := by
  cases h with
  | list A cap _ l _ U hl0 hl hm hnone hlen hA h1 hU =>
    refine .own A cap n l xs U hl0 hl hm hnone hlen (fun h0 => ?_) h1 hU
    obtain ⟨b, off, rfl, hb, hI, hc⟩ := hA h0
    exact ⟨b, off, rfl, hb, hI, hN b rfl, hF b off l cap rfl, hc⟩
end Go.Proofs.YtafomdobfmmleaaGreatDoor

/- Walks computed: 'execW' is sound. No program here. -/
namespace Go.Proofs.YtafomdobfmmleaaGreatDoor
open Go.RowKit
set_option linter.unusedSectionVars false
variable [Wd]
set_option linter.unusedVariables false

section
variable {P : Program} {Q : Exit → S → Prop}
theorem repD_flat (z : List D) : ∀ n, repD z n = (List.replicate n z).flatten
  | 0 => rfl
  | n + 1 => by simp [repD, List.replicate_succ, repD_flat z n]
theorem chunkD_ok {n : Nat} : ∀ (l : Nat) (cs : List D) (xs : List (List D)), chunkD n l cs = some xs → xs.flatten = cs ∧ xs.length = l ∧ ∀ x ∈ xs, x.length = n
  | 0, [], xs, h => by simp [chunkD] at h; subst h; simp
  | 0, _ :: _, xs, h => by simp [chunkD] at h
  | l + 1, cs, xs, h => by
    simp only [chunkD] at h
    split at h
    · rename_i r hr
      split at h
      · rename_i rs hrs
        injection h with h
        subst h
        rw [dropD_eq] at hrs
        obtain ⟨rfl, hle⟩ := tkD_eq _ _ _ hr
        obtain ⟨h1, h2, h3⟩ := chunkD_ok l _ rs hrs
        refine ⟨by rw [List.flatten_cons, h1, List.take_append_drop], by simp [h2], fun x hx => ?_⟩
        rcases List.mem_cons.1 hx with rfl | e
        · rw [List.length_take]; omega
        · exact h3 x e
      · cases h
    · cases h
theorem fillR_ok {n : Nat} (hn : 0 < n) {s : S} {a : Act} {I : Nat → Prop} {g : Ghost} {w : World} (hev : ∀ x, Vr I g w (a.eval x) (ev s x)) :
    ∀ (ps : List (Nat × Operand)) (cs cs' : List D) (A : Array Value), Vrs I g w A.toList cs → (∀ v ∈ A.toList, v.oneCell' = true) → fillR n s cs ps = some cs' →
      ∃ A', Instr.fill (fun i => some (i * n, n)) A (ps.map fun x => (x.1, a.eval x.2)) = some A' ∧ Vrs I g w A'.toList cs' ∧ ∀ v ∈ A'.toList, v.oneCell' = true
  | [], cs, cs', A, hv, h1, h => by
    simp only [fillR] at h
    injection h with h
    subst h
    exact ⟨A, rfl, hv, h1⟩
  | (i, x) :: r, cs, cs', A, hv, h1, h => by
    simp only [fillR] at h
    split at h
    · rename_i ds hds
      cases hl : Nat.beq ds.length n with
      | false => rw [hl] at h; cases h
      | true =>
        rw [hl] at h
        simp only [cond_true] at h
        split at h
        · rename_i cs1 ho
          obtain ⟨rfl, hle⟩ := overD_eq _ _ _ _ ho
          obtain ⟨k1, k2⟩ := cellsD_ok (hev x) hds
          have hdn : ds.length = n := Nat.eq_of_beq_eq_true hl
          have hsz : (a.eval x).cells.size = n := by
            have := k1.1
            rw [Array.length_toList] at this
            omega
          have hAs : A.size = cs.length := by rw [← Array.length_toList]; exact hv.1
          obtain ⟨A', e1, e2, e3⟩ := fillR_ok hn hev r _ cs' ((a.eval x).cells.zipIdx.foldl (fun (c : Array Value) (y : Value × Nat) => c.setIfInBounds (i * n + y.2) y.1) A) (by rw [foldl_setA]; exact hv.setMany (i * n) k1) (fun v hm => by
            rw [foldl_setA] at hm
            rcases setVs_mem _ _ _ _ hm with e | e
            · exact h1 v e
            · exact k2 v e) h
          refine ⟨A', ?_, e2, e3⟩
          simp only [List.map_cons, Instr.fill]
          have hne : ds ≠ [] := List.ne_nil_of_length_pos (by omega)
          have c2 : ¬ ((decide ((a.eval x).cells.size ≠ n) || decide (i * n + (a.eval x).cells.size > A.size)) = true) := by
            rcases hle with e | e
            · exact absurd e hne
            · simp only [Bool.or_eq_true, decide_eq_true_eq]
              omega
          show (if (decide ((a.eval x).cells.size ≠ n) || decide (i * n + (a.eval x).cells.size > A.size)) = true then none else _) = _
          rw [if_neg c2]
          exact e1
        · cases h
    · cases h
theorem zeros_ok {I : Nat → Prop} {g : Ghost} {w : World} {z : Array Value} {ds : List D} (hv : Vrs I g w z.toList ds) (h1 : ∀ v ∈ z.toList, v.oneCell' = true) {n : Nat} (hn : 0 < n) (hz : z.size = n) (l : Nat) :
    Vrs I g w ((Array.range (l * n)).map (z[· % z.size]!)).toList (repD ds l) ∧ ∀ v ∈ ((Array.range (l * n)).map (z[· % z.size]!)).toList, v.oneCell' = true := by
  have hdl : ds.length = n := by rw [← hv.1, Array.length_toList, hz]
  have hfl : ((List.replicate l ds).flatten).length = l * n := by
    rw [flatD_len (n := n) _ (fun y hy => by rw [List.eq_of_mem_replicate hy]; exact hdl)]
    simp
  have hget : ∀ i, z[i % z.size]! = z[i % n]'(by rw [hz]; exact Nat.mod_lt _ hn) := by
    intro i
    subst hz
    exact getElem!_pos z (i % z.size) (Nat.mod_lt _ hn)
  rw [repD_flat]
  refine ⟨⟨by simp [hfl], fun i v d k1 k2 => ?_⟩, fun v hv' => ?_⟩
  · have hlt : i < l * n := by have := (List.getElem?_eq_some_iff.1 k1).1; simpa using this
    obtain ⟨y, e1, e2⟩ := flat_get hn _ (fun y hy => by rw [List.eq_of_mem_replicate hy]; exact hdl) i d k2
    have hy : y = ds := List.eq_of_mem_replicate (List.mem_of_getElem? e1)
    subst hy
    have hv2 : v = z[i % n]'(by rw [hz]; exact Nat.mod_lt _ hn) := by
      rw [Array.getElem?_toList, Array.getElem?_map, Array.getElem?_range] at k1
      rw [if_pos hlt] at k1
      simp only [Option.map_some] at k1
      injection k1 with k1
      rw [← k1, hget]
    refine hv.2 (i % n) v d ?_ e2
    rw [hv2, Array.getElem?_toList]
    exact Array.getElem?_eq_getElem _
  · rw [Array.mem_toList_iff] at hv'
    obtain ⟨i, _, rfl⟩ := Array.mem_map.1 hv'
    rw [hget]
    exact h1 _ (Array.mem_toList_iff.2 (Array.getElem_mem _))
set_option maxHeartbeats 4000000 in
theorem execW_ok {E : En} (htb : E.tb.ok P) {s : S} {a : Act} {I : Nat → Prop} {g : Ghost} {w : World} (hW : Wd.W I w) (hev : ∀ x, Vr I g w (a.eval x) (ev s x)) (hd : Den I g w s.h) {o : Oper} {k : D → S → T} (h : (execW E o.op o.type s k).ok P Q) : Ef P I g w a.eval o s Q k := by
  obtain ⟨dst, op, ty, pos, after, guard⟩ := o
  simp only at h
  unfold execW at h
  simp only [setH_eq, setHD_eq, pushH_eq, forceD_eq] at h
  split at h
  · -- alloc
    rename_i e
    split at h
    · rename_i isz iby iz ikd hl
      obtain ⟨inf, zv, hinf, hsz, hby, hz, hzo, hzs, hzr⟩ := (htb e _ hl).info
      obtain ⟨z1, z2⟩ := zeroOk_ok (I := I) (g := g ++ [gp w]) (w := w.alloc (.cells zv.cells e)) _ _ hzo
      refine .inl ⟨.pointer (some ⟨w.heap.size, 0, none⟩), w.alloc (.cells zv.cells e), I, g ++ [gp w], .ptr s.h.length 0, { s with h := s.h ++ [.cells e iz] }, .inl ?_, rfl, Af.cells hd (B.alloc' _ _) (by simpa using Blk.new w e zv.cells) z1 z2, Vr.newPtr hd, h⟩
      simp only [execOp, Instr.alloc, Sem.run_bind, zero_run hinf hz, Result.andThen_ok, newVar_run, Sem.run_pure]
    · exact h.elim
  · -- box
    rename_i e x
    split at h
    · rename_i cs hc
      obtain ⟨z1, z2⟩ := cellsD_ok (hev x) hc
      have z1' : Vrs I (g ++ [gp w]) (w.alloc (.cells (a.eval x).cells e)) (a.eval x).cells.toList cs := (z1.ext (Ext.of_B (own := fun _ => False) (B.alloc' _ _)) (fun _ _ => id)).mono (fun _ h => h) (fun _ _ h => get_old h)
      refine .inl ⟨.pointer (some ⟨w.heap.size, 0, none⟩), w.alloc (.cells (a.eval x).cells e), I, g ++ [gp w], .ptr s.h.length 0, { s with h := s.h ++ [.cells e cs] }, .inl ?_, rfl, Af.cells hd (B.alloc' _ _) (by simpa using Blk.new w e (a.eval x).cells) z1' z2, Vr.newPtr hd, h⟩
      simp only [execOp, Instr.box, Sem.run_bind, Result.andThen_ok, newVar_run, Sem.run_pure]
    · exact h.elim
  · -- store
    rename_i t x y
    split at h
    · rename_i o off i ds hx hl hds
      split at h
      · rename_i ct cs hh
        cases hb : Nat.beq ds.length i.size with
        | false => rw [hb] at h; exact h.elim
        | true =>
          rw [hb] at h
          simp only [cond_true] at h
          split at h
          · rename_i cs' ho
            obtain ⟨rfl, hle⟩ := overD_eq _ _ _ _ ho
            obtain ⟨k1, k2⟩ := cellsD_ok (hev y) hds
            have hv := hev x; rw [hx] at hv
            obtain ⟨b, bo, hg, e⟩ := hv.ptr_inv
            have hlc := lh_cells hh
            obtain ⟨b', vs, hp, hblk, g1, g2⟩ := hd.obj o _ _ hlc hg
            injection hp with hp1 hp2
            injection hp2 with hp2
            injection hp2 with hp2
            injection hp2 with hp2 _ _
            subst hp2
            obtain ⟨inf, zv, hinf, hsz, hby, hz, hzo, hzs, hzr⟩ := (htb t i hl).info
            have hds' : ds.length = i.size := Nat.eq_of_beq_eq_true hb
            have hus : (a.eval y).cells.toList.length = ds.length := k1.1
            have hroom : ∀ j, j < (a.eval y).cells.toList.length → off + j < vs.length := by
              intro j hj
              rcases hle with e | e
              · rw [e] at hus; simp at hus; simp [hus] at hj
              · have := g1.1; omega
            have hrun : (storeVar t ⟨b, off, none⟩ (a.eval y)).run P w = .ok () (w.setCells b off (a.eval y).cells.toList) := by
              have := run_storeCells_cells (P := P) b off (a.eval y).cells.toList 0 w (fun j hj => by rw [hblk.cell]; simp; exact hroom j hj) (fun j hj => hblk.frozen _) k2
              rw [Nat.add_zero] at this
              unfold storeVar
              have hc : ¬ ((a.eval y).cells.size ≠ inf.size) := by
                rw [Array.length_toList] at hus
                omega
              simp only [Sem.run_bind, sizeOf_run hinf, Result.andThen_ok, if_neg hc]
              exact this
            have hxx : Ext (fun q => (AO.cells ct cs).owns (bo, .pointer (some ⟨b, 0, none⟩)) q) w (w.setCells b off (a.eval y).cells.toList) := (Ext.setCells _ _).mono (fun q _ e => by subst e; exact hp1)
            have hI : ∀ q, I q → ¬ (AO.cells ct cs).owns (bo, .pointer (some ⟨b, 0, none⟩)) q := fun q hq ho' => hd.own o _ _ q hlc hg ho' hq
            refine .inl ⟨undef, w.setCells b off (a.eval y).cells.toList, I, g, .tup [], { s with h := sh s.h o (.cells ct (setDs cs off ds)) }, .inr ⟨?_, rfl⟩, rfl, ⟨?_, ?_, fun _ h => h, fun _ h => .inl h, fun _ _ h => h, fun q hq hn => ?_, fun q ao' p' b2 hq h1 h2 h3 => ?_, fun q ao' p' b2 hq h1 h2 h3 => ?_⟩, .undef, h⟩
            · simp only [execOp, Instr.storeAt, e, Instr.sureAddr, Sem.run_bind, Sem.run_pure, Result.andThen_ok, hrun]
            · show Den I g _ (sh s.h o _)
              rw [sh_eq]
              refine hd.setObj hlc hg hxx (fun q hq => hq) ⟨b, setVs vs off (a.eval y).cells.toList, by rw [hp1], hblk.setCells _ _ _, (g1.setMany off k1).ext hxx hI, fun v hv => ?_⟩
              rcases setVs_mem _ _ _ _ hv with e | e
              · exact g2 v e
              · exact k2 v e
            · refine hxx.mono (fun q _ hq => ⟨o, _, _, ?_, hlc, hg, hq⟩)
              simp [modsOf, hx]
            · have hn' : q ≠ o := by simpa [modsOf, hx] using hn
              show (sh s.h o _)[q]? = _
              rw [sh_eq, List.getElem?_set_ne (Ne.symm hn')]
            · have h1' : (s.h.set o (.cells ct (setDs cs off ds)))[q]? = some ao' := by rw [← sh_eq]; exact h1
              rw [List.getElem?_set] at h1'
              split at h1'
              · rename_i e
                subst e
                split at h1' <;> first
                  | (cases h1'; done)
                  | (injection h1' with e; subst e; exact ⟨_, hlc, h3⟩)
              · exact ⟨_, h1', h3⟩
            · have h1' : (s.h.set o (.cells ct (setDs cs off ds)))[q]? = some ao' := by rw [← sh_eq]; exact h1
              have := (List.getElem?_eq_some_iff.1 h1').1
              simp at this
              omega
          · exact h.elim
      · exact h.elim
    · rename_i o n j off i ds hx hl hds
      split at h
      · rename_i ct m xs hh
        cases hb : Nat.beq n m && (Nat.beq ds.length i.size && (Nat.blt 0 i.size && pureD.pl ds)) with
        | false => rw [hb] at h; exact h.elim
        | true =>
          rw [hb] at h
          rw [Bool.and_eq_true, Bool.and_eq_true, Bool.and_eq_true] at hb
          obtain ⟨hb0, hb1, hb2, hb3⟩ := hb
          cases Nat.eq_of_beq_eq_true hb0
          obtain ⟨x0, hj0, hc, h⟩ := h
          rw [Int.toNat_natCast] at hc
          dsimp only at h
          split at h
          · rename_i x' ho
            obtain ⟨rfl, hle⟩ := overD_eq _ _ _ _ ho
            obtain ⟨k1, k2⟩ := cellsD_ok (hev y) hds
            have hv := hev x; rw [hx] at hv
            obtain ⟨bo, b, base, l, c, hg, e⟩ := hv.rowp_inv
            have hlr := lh_row hh
            obtain ⟨a', c', vs, hp, hown, hbo, hvs, hlen, h1⟩ := hd.obj o _ _ hlr hg
            obtain ⟨inf, zv, hinf, hsz, hby, hz, hzo, hzs, hzr⟩ := (htb t i hl).info
            have hds' : ds.length = i.size := Nat.eq_of_beq_eq_true hb1
            have hpos : 0 < i.size := Nat.le_of_ble_eq_true hb2
            have hus : (a.eval y).cells.toList.length = ds.length := k1.1
            have hx0 : x0.length = n := hlen x0 (List.mem_of_getElem? hc)
            have hle' : off + ds.length ≤ n := by
              rcases hle with q | q
              · rw [q] at hds'; simp at hds'; omega
              · omega
            have hjl : j < xs.length := (List.getElem?_eq_some_iff.1 hc).1
            have hjn : j * n + n ≤ xs.length * n := by
              have := Nat.mul_le_mul_right n (show j + 1 ≤ xs.length from hjl)
              rwa [Nat.add_mul, Nat.one_mul] at this
            obtain ⟨gb, cap, q1, w', q2, q3, q4⟩ := hown.put (P := P) (q := j * n + off) (us := (a.eval y).cells.toList) (by rw [hown.1]; omega) (by omega) k2
            injection q1 with q1 q5 q6
            injection q1 with q1
            injection q1 with q1 q7 _
            subst q1 q7
            have hrun : (storeVar t ⟨b, 0 + j * n + off, none⟩ (a.eval y)).run P w = .ok () w' := by
              unfold storeVar
              have hcs : ¬ ((a.eval y).cells.size ≠ inf.size) := by
                rw [Array.length_toList] at hus
                omega
              simp only [Sem.run_bind, sizeOf_run hinf, Result.andThen_ok, if_neg hcs, Nat.zero_add]
              exact q2
            have hbo' : bo = some b := hbo
            have hxx : Ext (fun q => (AO.row ct n xs).owns (bo, .slice (some ⟨b, 0, none⟩) l c) q) w w' := q4.mono (fun q _ e => by subst e; exact hbo')
            have hI : ∀ q, I q → ¬ (AO.row ct n xs).owns (bo, .slice (some ⟨b, 0, none⟩) l c) q := fun q hq ho' => hd.own o _ _ q hlr hg ho' hq
            have hlen' : ∀ z ∈ xs.set j (setDs x0 off ds), z.length = n := fun z hz => by
              rcases List.mem_or_eq_of_mem_set hz with q | q
              · exact hlen z q
              · rw [q, setDs_len]; exact hx0
            refine .inl ⟨undef, w', I, g, .tup [], { s with h := sh s.h o (.row ct n (xs.set j (setDs x0 off ds))) }, .inr ⟨?_, rfl⟩, rfl, ⟨?_, ?_, fun _ h => h, fun _ h => .inl h, fun _ _ h => h, fun q hq hn => ?_, fun q ao' p' b2 hq h1 h2 h3 => ?_, fun q ao' p' b2 hq h1 h2 h3 => ?_⟩, .undef, h⟩
            · simp only [execOp, Instr.storeAt, e, Instr.sureAddr, Sem.run_bind, Sem.run_pure, Result.andThen_ok, hrun]
            · show Den I g _ (sh s.h o _)
              rw [sh_eq]
              refine hd.setObj hlr hg hxx (fun q hq => hq) ⟨a', c', _, by rw [List.length_set]; exact hp, by rw [List.length_set]; exact q3, hbo, ?_, hlen', fun v hv => ?_⟩
              · rw [flat_set xs hlen j off x0 ds hc hle', ← setVs_seg _ _ _ (by rw [hown.1, hus]; omega)]
                exact (hvs.setMany (j * n + off) (pureL_ok k1 hb3)).ext hxx hI
              · simp only [List.mem_append] at hv
                rcases hv with (q | q) | q
                · exact h1 v (List.mem_of_mem_take q)
                · exact k2 v q
                · exact h1 v (List.mem_of_mem_drop q)
            · refine hxx.mono (fun q _ hq => ⟨o, _, _, ?_, hlr, hg, hq⟩)
              simp [modsOf, hx]
            · have hn' : q ≠ o := by simpa [modsOf, hx] using hn
              show (sh s.h o _)[q]? = _
              rw [sh_eq, List.getElem?_set_ne (Ne.symm hn')]
            · have h1' : (s.h.set o (.row ct n (xs.set j (setDs x0 off ds))))[q]? = some ao' := by rw [← sh_eq]; exact h1
              rw [List.getElem?_set] at h1'
              split at h1'
              · rename_i e
                subst e
                split at h1' <;> first
                  | (cases h1'; done)
                  | (injection h1' with e; subst e; exact ⟨_, hlr, h3⟩)
              · exact ⟨_, h1', h3⟩
            · have h1' : (s.h.set o (.row ct n (xs.set j (setDs x0 off ds))))[q]? = some ao' := by rw [← sh_eq]; exact h1
              have := (List.getElem?_eq_some_iff.1 h1').1
              simp at this
              omega
          · exact h.elim
      · exact h.elim
    · exact h.elim
  · -- buildSlice
    rename_i t len parts
    split at h
    · rename_i sz by_ z e hl
      split at h
      · rename_i i hi
        cases hb : Nat.blt 0 i.size && Nat.ble (len * i.size) 16777216 with
        | false => rw [hb] at h; exact h.elim
        | true =>
          rw [hb] at h
          rw [Bool.and_eq_true] at hb
          simp only [cond_true] at h
          have hpos : 0 < i.size := Nat.le_of_ble_eq_true hb.1
          have hcap : len * i.size ≤ 16777216 := Nat.le_of_ble_eq_true hb.2
          split at h
          · rename_i cs hf
            cases hpu : pureD.pl cs with
            | false => rw [hpu] at h; exact h.elim
            | true =>
            rw [hpu] at h
            simp only [cond_true] at h
            split at h
            · rename_i xs hx
              have hk := kind_slice htb hl
              obtain ⟨inf, zv, hinf, hsz, hby, hz, hzo, hzs, hzr⟩ := (htb e i hi).info
              obtain ⟨z1, z2⟩ := zeroOk_ok (I := I) (g := g) (w := w) _ _ hzo
              obtain ⟨q1, q2⟩ := zeros_ok z1 z2 hpos hzs len
              obtain ⟨A, r1, r2, r3⟩ := fillR_ok hpos hev _ _ _ _ q1 q2 hf
              obtain ⟨c1, c2, c3⟩ := chunkD_ok _ _ _ hx
              have hAl : A.size = len * i.size := by
                have := r2.1
                rw [Array.length_toList] at this
                rw [this, ← c1, flatD_len _ c3, c2]
              have hlm : len ≤ maxLen := by
                unfold maxLen
                have : len * 1 ≤ len * i.size := Nat.mul_le_mul_left _ hpos
                omega
              have hnew : (w.alloc (.cells A e)).ownsRow 0 e i.size (.slice (some ⟨w.heap.size, 0, none⟩) len len) xs.length A.toList := by
                rw [c2]
                refine ⟨by rw [Array.length_toList, hAl], .inr ⟨w.heap.size, len, A, rfl, Nat.zero_le _, Blk.new w e A, Nat.le_refl _, hlm, hAl, ?_⟩⟩
                rw [List.take_of_length_le (by rw [Array.length_toList, hAl]; exact Nat.le_refl _)]
              have r2' : Drs I (w.alloc (.cells A e)) A.toList xs.flatten := by
                rw [c1]
                exact (pureL_ok r2 hpu).ext (Ext.of_B (own := fun _ => False) (B.alloc' _ _)) (fun _ _ => id)
              have hrun : (execOp a.eval ⟨dst, .buildSlice t len parts, ty, pos, after, guard⟩).run P w = .ok (.value (.slice (some ⟨w.heap.size, 0, none⟩) len len)) (w.alloc (.cells A e)) := by
                have hnz : ¬ (len * i.size > 2 ^ 24) := by omega
                have hfill : Instr.fill (fun j => some (j * i.size, i.size)) ((Array.range (len * i.size)).map ((if len * i.size = 0 then (#[] : Array Value) else zv.cells)[· % (if len * i.size = 0 then (#[] : Array Value) else zv.cells).size]!)) ((parts.map fun (j, x) => (j, a.eval x)).toList) = some A := by
                  rw [Array.toList_map]
                  by_cases h0 : len * i.size = 0
                  · rw [h0] at r1 ⊢
                    have e0 : ((Array.range 0).map fun x => (if (0:Nat) = 0 then (#[] : Array Value) else zv.cells)[x % (if (0:Nat) = 0 then (#[] : Array Value) else zv.cells).size]!) = (Array.range 0).map (zv.cells[· % zv.cells.size]!) := by simp
                    rw [e0]
                    exact r1
                  · simp only [if_neg h0]
                    exact r1
                simp only [execOp, Instr.buildSlice, Sem.run_bind, run_underlying hk, Result.andThen_ok, sizeOf_run hinf, hsz, if_neg hnz]
                by_cases h0 : len * i.size = 0
                · simp only [h0, if_true] at hfill ⊢
                  simp only [Sem.run_pure, Result.andThen_ok, Sem.run_bind, hfill]
                  simp [newRow]
                · simp only [h0, if_false] at hfill ⊢
                  simp only [Sem.run_bind, zero_run hinf hz, Sem.run_pure, Result.andThen_ok, hfill]
                  simp [newRow]
              cases hdat : E.dat with
              | true =>
                rw [hdat] at h
                have hnot : ¬ Owned g s.h w.heap.size := fun ho => Nat.lt_irrefl _ (hd.lt ho)
                have hB := B.alloc' w (.cells A e)
                have hsz' : (w.alloc (.cells A e)).heap.size = w.heap.size + 1 := by simp
                refine .inl ⟨_, w.alloc (.cells A e), fun x => I x ∨ x = w.heap.size, g, _, s, .inl hrun, rfl, ⟨(hd.later hB).inns (fun _ h => .inl h) (fun x hx => ?_) (fun x hx => ?_), Ext.of_B hB, fun _ h => .inl h, fun x hx => ?_, fun _ _ h => h, fun _ _ _ => rfl, fun q ao' p' b2 hq h1 h2 h3 => ⟨ao', h1, h3⟩, fun q ao' p' b2 hq h1 h2 h3 => by have := (List.getElem?_eq_some_iff.1 h1).1; omega⟩, .rd (Dr.of_row (OwnM.of hnew) (r2'.mono (fun _ h => .inl h)) c3 r3 (fun b hb => ?_)), h⟩
                · rw [hsz']
                  rcases hx with e | e
                  · have := hd.inn x e; omega
                  · omega
                · rcases hx with e | e
                  · intro ho
                    obtain ⟨o, ao, p, a1, a2, a3⟩ := ho
                    exact hd.own o ao p x a1 a2 a3 e
                  · subst e; exact hnot
                · rcases hx with e | e
                  · exact .inl e
                  · right; right; omega
                · right
                  simpa [Value.ownBlock] using hb.symm
              | false =>
                rw [hdat] at h
                refine .inl ⟨.slice (some ⟨w.heap.size, 0, none⟩) len len, w.alloc (.cells A e), I, g ++ [(some w.heap.size, .slice (some ⟨w.heap.size, 0, none⟩) len len)], .row s.h.length, { s with h := s.h ++ [.row e i.size xs] }, .inl hrun, rfl, Af.push hd (B.alloc' _ _) (p := (some w.heap.size, .slice (some ⟨w.heap.size, 0, none⟩) len len)) (ao := .row e i.size xs) ⟨some ⟨w.heap.size, 0, none⟩, len, A.toList, by rw [c2], OwnM.of hnew, rfl, r2', c3, r3⟩ (fun b hb => by
                  have : some w.heap.size = some b := hb
                  injection this with this
                  omega), Vr.newRow hd, h⟩
            · exact h.elim
          · exact h.elim
      · exact h.elim
    · exact h.elim
  · -- convert
    rename_i src dst' x
    split at h
    · rename_i sz by_ z sz' by' z' e b hs hdst hx
      split at h
      · rename_i sz2 by2 z2 he
        obtain ⟨hbig, h⟩ := h
        have hv := hev x; rw [hx] at hv
        have k1 := kind_str htb hs
        have k2 := kind_slice htb hdst
        have k3 := kind_int htb he
        have hB : B w (Lib.bytesWorld w e (bstr b)) := ⟨rfl, rfl, rfl, by rw [Lib.bytesWorld_size]; omega, fun j hj => Lib.bytesWorld_at_old w e (bstr b) j hj⟩
        have hcap1 : b.length ≤ grownCap w (bstr b).size 0 e := by have := grownCap_ge w (bstr b).size 0 e; rw [bstr_sz] at this ⊢; exact this
        have hcap2 : grownCap w (bstr b).size 0 e ≤ maxLen := grownCap_le_maxLen w _ 0 e (by rw [bstr_sz]; unfold maxLen; omega)
        have hbs : Bs (Lib.bytesWorld w e (bstr b)) (.slice (some ⟨w.heap.size, 0, none⟩) b.length (grownCap w (bstr b).size 0 e)) b := by
          refine ⟨⟨some ⟨w.heap.size, 0, none⟩, _, rfl, fun e => (by cases e), hcap1, hcap2, fun ad had => ?_⟩, hbig⟩
          cases had
          refine ⟨fun _ => by rw [Lib.bytesWorld_size]; exact Nat.lt_succ_self _, fun j u hu => ?_⟩
          have hj : j < b.length := by
            rcases Nat.lt_or_ge j b.length with h | h
            · exact h
            · rw [List.getElem?_eq_none (by rw [cellsB_len]; exact h)] at hu; cases hu
          rw [cellsB_get b j hj] at hu
          injection hu with hu
          subst hu
          rw [Addr.add_mid, Nat.zero_add, Lib.bytesWorld_cell w e (bstr b) j (by rw [bstr_sz]; exact hj)]
          simp [bstr, List.getD, hj]
        have hnot : ¬ Owned g s.h w.heap.size := fun ho => Nat.lt_irrefl _ (hd.lt ho)
        cases hdat : E.dat with
        | true =>
            rw [hdat] at h
            refine .inl ⟨_, Lib.bytesWorld w e (bstr b), fun x => I x ∨ x = w.heap.size, g, _, s, .inl ?_, rfl, ⟨(hd.later hB).inns (fun _ h => .inl h) (fun x hx => ?_) (fun x hx => ?_), Ext.of_B hB, fun _ h => .inl h, fun x hx => ?_, fun _ _ h => h, fun _ _ _ => rfl, fun q ao' p' b2 hq h1 h2 h3 => ⟨ao', h1, h3⟩, fun q ao' p' b2 hq h1 h2 h3 => by have := (List.getElem?_eq_some_iff.1 h1).1; omega⟩, .rd (hbs.dr (fun q hq _ => ?_)), h⟩
            · have := Lib.run_convert_string_bytes (P := P) w src dst' e (bstr b) k1 k2 k3
              rw [bstr_sz] at this
              simp only [execOp, hv.str_inv, Sem.run_bind, this, bstr_sz]
              rfl
            · rw [Lib.bytesWorld_size]
              rcases hx with e | e
              · have := hd.inn x e; omega
              · omega
            · rcases hx with e | e
              · intro ho
                obtain ⟨o, ao, p, a1, a2, a3⟩ := ho
                exact hd.own o ao p x a1 a2 a3 e
              · subst e; exact hnot
            · rcases hx with e | e
              · exact .inl e
              · right; right; omega
            · right
              simpa [Value.ownBlock] using hq.symm
        | false =>
            rw [hdat] at h
            simp only [cond_false] at h
            have hw := OwnM.conv w e (bstr b) (by rw [bstr_sz]; unfold maxLen; omega)
            rw [bstr_sz, strCells_bstr] at hw
            have hrun := Lib.run_convert_string_bytes (P := P) w src dst' e (bstr b) k1 k2 k3
            rw [bstr_sz] at hrun
            refine .inl ⟨.slice (some ⟨w.heap.size, 0, none⟩) b.length (grownCap w b.length 0 e), Lib.bytesWorld w e (bstr b), I, g ++ [(some w.heap.size, .slice (some ⟨w.heap.size, 0, none⟩) b.length (grownCap w b.length 0 e))], .row s.h.length, { s with h := s.h ++ [.row e 1 (b.map cByte)] }, .inl ?_, rfl, Af.push hd hB (p := (some w.heap.size, .slice (some ⟨w.heap.size, 0, none⟩) b.length (grownCap w b.length 0 e))) (ao := .row e 1 (b.map cByte)) ⟨some ⟨w.heap.size, 0, none⟩, grownCap w b.length 0 e, cellsB b, by rw [List.length_map], by rw [List.length_map]; exact hw, rfl, cells_dr b, (by intro y hy; obtain ⟨x, _, rfl⟩ := List.mem_map.1 hy; rfl), cellsB_one b⟩ (fun b' hb' => by
              have : some w.heap.size = some b' := hb'
              injection this with this
              omega), ?_, h⟩
            · simp only [execOp, hv.str_inv, Sem.run_bind, hrun]
              rfl
            · exact Vr.newRow hd
      · exact h.elim
    · exact h.elim
  · -- append
    rename_i args ts
    split at h
    · rename_i x y t t' hargs hts
      have ha : args = #[x, y] := Array.toList_inj.1 hargs
      have ht : ts = #[t, t'] := Array.toList_inj.1 hts
      subst ha ht
      cases htt : Nat.beq t t' with
      | false =>
        rw [htt] at h
        simp only [cond_false] at h
        split at h
        · rename_i sz by_ z e sz' by' z' o b hl ht' hx hy
          split at h
          · rename_i sz2 by2 z2 e' n' xs he hh
            cases hb2 : (Nat.beq e e' && Nat.beq 1 n') && Nat.beq sz2 1 with
            | false => rw [hb2] at h; exact h.elim
            | true =>
            rw [hb2] at h
            rw [Bool.and_eq_true, Bool.and_eq_true] at hb2
            simp only [cond_true] at h
            cases Nat.eq_of_beq_eq_true hb2.1.1
            cases Nat.eq_of_beq_eq_true hb2.1.2
            have hvy := hev y; rw [hy] at hvy
            obtain ⟨⟨c1, c2⟩, h⟩ := h
            have hv := hev x; rw [hx] at hv
            obtain ⟨bo, ra, rl, rc, hg, ex⟩ := hv.row_inv
            have hlc := lh_row hh
            obtain ⟨a', c', vs, hp, hown, hbo, hvs, hlen, h1⟩ := hd.obj o _ _ hlc hg
            have hbo' : bo = (Value.slice ra rl rc).ownBlock := hbo
            have hdd := hd.drop o
            have hOw : ∀ bb, (Value.slice ra rl rc).ownBlock = some bb → ¬ I bb ∧ ¬ Owned g (s.h.set o .gone) bb := by
              intro bb hb
              have ho : (AO.row e 1 xs).owns (bo, .slice ra rl rc) bb := by show bo = some bb; rw [hbo']; exact hb
              refine ⟨fun hI => hd.own o _ _ bb hlc hg ho hI, fun hO => ?_⟩
              obtain ⟨o2, ao2, p2, q1, q2, q3⟩ := hO
              rw [List.getElem?_set] at q1
              split at q1
              · split at q1
                · injection q1 with q1; subst q1; exact q3
                · cases q1
              · rename_i hne
                exact hne (hd.sep o o2 _ ao2 _ p2 bb hlc q1 hg q2 ho q3)
            obtain ⟨v', w', r1, r2, r3, ⟨qa, ql, qc, r4⟩, r5⟩ := appds_ok hdd htb hl ht' he (Nat.eq_of_beq_eq_true hb2.2) hown hvs hlen h1 hOw c1 c2 ty
            have hmods : modsOf (.call ⟨.builtin .append, #[x, y], #[t, t']⟩) s = [o] := by simp [modsOf, hx]
            have hE : Ext (OwnedIn [o] g s.h) w w' := (Ext.refl _ w).grown r2 (fun bb hb _ => ⟨o, _, _, by simp, hlc, hg, by show bo = some bb; rw [hbo']; exact hb⟩)
            refine .inl ⟨v', w', I, g ++ [(v'.ownBlock, v')], .row s.h.length, { s with h := sh s.h o .gone ++ [.row e 1 (xs ++ b.map cByte)] }, .inl ?_, rfl, ⟨by simp only [sh_eq]; exact r3, by simp only [hmods]; exact hE, fun _ h => h, fun _ h => .inl h, fun _ _ h => get_old h, fun q hq hn => ?_, fun q ao' p' bb hq h1 h2 h3 => ?_, fun q ao' p' bb hq h1 h2 h3 => ?_⟩, ?_, h⟩
            · simp only [execOp, resolve, invoke, builtin, Sem.run_bind, Sem.run_pure, Result.andThen_ok, List.map_toArray, List.map_cons, List.map_nil, ex, hvy.str_inv, r1]
            · simp only [hmods, List.mem_singleton] at hn
              show (sh s.h o .gone ++ _)[q]? = _
              rw [sh_eq, List.getElem?_append_left (by simpa using hq), List.getElem?_set_ne (Ne.symm hn)]
            · replace h1 : (sh s.h o .gone ++ [AO.row e 1 (xs ++ b.map cByte)])[q]? = some ao' := h1
              rw [sh_eq, List.getElem?_append_left (by simpa using hq), List.getElem?_set] at h1
              split at h1
              · split at h1
                · injection h1 with h1; subst h1; exact h3.elim
                · cases h1
              · exact ⟨ao', h1, h3⟩
            · replace h1 : (sh s.h o .gone ++ [AO.row e 1 (xs ++ b.map cByte)])[q]? = some ao' := h1
              rw [sh_eq] at h1
              rcases get_push h1 with ⟨e1, _⟩ | ⟨e1, k1⟩
              · simp at e1; omega
              · rcases get_push h2 with ⟨e2, _⟩ | ⟨e2, k2⟩
                · have := hd.len; omega
                · subst k1 k2
                  have hb' : v'.ownBlock = some bb := h3
                  rcases r5 with e5 | e5
                  · rw [e5] at hb'
                    left
                    simp only [hmods]
                    exact ⟨o, _, _, by simp, hlc, hg, by show bo = some bb; rw [hbo']; exact hb'⟩
                  · rw [e5] at hb'; injection hb' with hb'; right; omega
            · rw [r4]
              exact .row _ (Value.slice qa ql qc).ownBlock _ _ _ (by rw [← hd.len]; exact getD_len _ _)
          · exact h.elim
        · exact h.elim
      | true =>
        rw [htt] at h
        cases Nat.eq_of_beq_eq_true htt
        simp only [cond_true] at h
        split at h
        · rename_i sz by_ z e hl
          split at h
          · rename_i i hi
            cases hb : Nat.blt 0 i.size with
            | false => rw [hb] at h; exact h.elim
            | true =>
              rw [hb] at h
              simp only [cond_true] at h
              have hpos : 0 < i.size := Nat.le_of_ble_eq_true hb
              split at h
              case h_2 => exact h.elim
              rename_i ys hy
              obtain ⟨news, hrd, g1, hnv, hys⟩ := rowsD_ok hd hpos (hev y) hy
              split at h
              · rename_i hx
                obtain ⟨⟨c1, c2⟩, h⟩ := h
                have hv := hev x; rw [hx] at hv
                have ex := hv.nils_inv
                obtain ⟨v', w', r1, r2, r3, ⟨qa, ql, qc, r4⟩, r5⟩ := appd_ok hd htb hl hi (xs := []) (vs := []) hpos hrd g1 hnv hys (OwnM.nil w e i.size) .nil (by simp) (by simp) (fun b hb => by simp [Value.ownBlock] at hb) (by simpa using c1) (by simpa using c2) ty
                have hB : B w w' := (Ext.refl (fun _ => False) w).grown r2 (fun g hg => by simp [Value.ownBlock] at hg) |>.to_B (fun _ _ => id)
                refine .inl ⟨v', w', I, g ++ [(v'.ownBlock, v')], .row s.h.length, { s with h := s.h ++ [.row e i.size ys] }, .inl ?_, rfl, ⟨by simpa using r3, Ext.of_B hB, fun _ h => h, fun _ h => .inl h, fun _ _ h => get_old h, fun q hq _ => List.getElem?_append_left hq, fun q ao' p' b hq h1 h2 h3 => ⟨ao', by rw [← h1]; exact (List.getElem?_append_left hq).symm, h3⟩, fun q ao' p' b hq h1 h2 h3 => ?_⟩, ?_, h⟩
                · simp only [execOp, resolve, invoke, builtin, Sem.run_bind, Sem.run_pure, Result.andThen_ok, List.map_toArray, List.map_cons, List.map_nil, ex, r1]
                · rcases get_push h1 with ⟨e1, _⟩ | ⟨e1, k1⟩
                  · omega
                  · rcases get_push h2 with ⟨e2, _⟩ | ⟨e2, k2⟩
                    · have := hd.len; omega
                    · subst k1 k2
                      right
                      have hb' : v'.ownBlock = some b := h3
                      rcases r5 with e5 | e5
                      · rw [e5] at hb'; simp [Value.ownBlock] at hb'
                      · rw [e5] at hb'; injection hb' with hb'; omega
                · rw [r4]
                  exact .row _ (Value.slice qa ql qc).ownBlock _ _ _ (by rw [← hd.len]; exact getD_len _ _)
              · rename_i o hx
                split at h
                · rename_i e' n' xs hh
                  cases hb2 : Nat.beq e e' && Nat.beq i.size n' with
                  | false => rw [hb2] at h; exact h.elim
                  | true =>
                    rw [hb2] at h
                    rw [Bool.and_eq_true] at hb2
                    simp only [cond_true] at h
                    cases Nat.eq_of_beq_eq_true hb2.1
                    cases Nat.eq_of_beq_eq_true hb2.2
                    obtain ⟨⟨c1, c2⟩, h⟩ := h
                    have hv := hev x; rw [hx] at hv
                    obtain ⟨bo, ra, rl, rc, hg, ex⟩ := hv.row_inv
                    have hlc := lh_row hh
                    obtain ⟨a', c', vs, hp, hown, hbo, hvs, hlen, h1⟩ := hd.obj o _ _ hlc hg
                    have hbo' : bo = (Value.slice ra rl rc).ownBlock := hbo
                    have hdd := hd.drop o
                    have hOw : ∀ b, (Value.slice ra rl rc).ownBlock = some b → ¬ I b ∧ ¬ Owned g (s.h.set o .gone) b := by
                      intro b hb
                      have ho : (AO.row e i.size xs).owns (bo, .slice ra rl rc) b := by show bo = some b; rw [hbo']; exact hb
                      refine ⟨fun hI => hd.own o _ _ b hlc hg ho hI, fun hO => ?_⟩
                      obtain ⟨o2, ao2, p2, q1, q2, q3⟩ := hO
                      rw [List.getElem?_set] at q1
                      split at q1
                      · split at q1
                        · injection q1 with q1; subst q1; exact q3
                        · cases q1
                      · rename_i hne
                        exact hne (hd.sep o o2 _ ao2 _ p2 b hlc q1 hg q2 ho q3)
                    obtain ⟨v', w', r1, r2, r3, ⟨qa, ql, qc, r4⟩, r5⟩ := appd_ok hdd htb hl hi hpos hrd g1 hnv hys hown hvs hlen h1 hOw c1 c2 ty
                    have hmods : modsOf (.call ⟨.builtin .append, #[x, y], #[t, t]⟩) s = [o] := by simp [modsOf, hx]
                    have hE : Ext (OwnedIn [o] g s.h) w w' := (Ext.refl _ w).grown r2 (fun b hb _ => ⟨o, _, _, by simp, hlc, hg, by show bo = some b; rw [hbo']; exact hb⟩)
                    refine .inl ⟨v', w', I, g ++ [(v'.ownBlock, v')], .row s.h.length, { s with h := sh s.h o .gone ++ [.row e i.size (xs ++ ys)] }, .inl ?_, rfl, ⟨by simp only [sh_eq]; exact r3, by simp only [hmods]; exact hE, fun _ h => h, fun _ h => .inl h, fun _ _ h => get_old h, fun q hq hn => ?_, fun q ao' p' b hq h1 h2 h3 => ?_, fun q ao' p' b hq h1 h2 h3 => ?_⟩, ?_, h⟩
                    · simp only [execOp, resolve, invoke, builtin, Sem.run_bind, Sem.run_pure, Result.andThen_ok, List.map_toArray, List.map_cons, List.map_nil, ex, r1]
                    · simp only [hmods, List.mem_singleton] at hn
                      show (sh s.h o .gone ++ _)[q]? = _
                      rw [sh_eq, List.getElem?_append_left (by simpa using hq), List.getElem?_set_ne (Ne.symm hn)]
                    · replace h1 : (sh s.h o .gone ++ [AO.row e i.size (xs ++ ys)])[q]? = some ao' := h1
                      rw [sh_eq, List.getElem?_append_left (by simpa using hq), List.getElem?_set] at h1
                      split at h1
                      · split at h1
                        · injection h1 with h1; subst h1; exact h3.elim
                        · cases h1
                      · exact ⟨ao', h1, h3⟩
                    · replace h1 : (sh s.h o .gone ++ [AO.row e i.size (xs ++ ys)])[q]? = some ao' := h1
                      rw [sh_eq] at h1
                      rcases get_push h1 with ⟨e1, _⟩ | ⟨e1, k1⟩
                      · simp at e1; omega
                      · rcases get_push h2 with ⟨e2, _⟩ | ⟨e2, k2⟩
                        · have := hd.len; omega
                        · subst k1 k2
                          have hb' : v'.ownBlock = some b := h3
                          rcases r5 with e5 | e5
                          · rw [e5] at hb'
                            left
                            simp only [hmods]
                            exact ⟨o, _, _, by simp, hlc, hg, by show bo = some b; rw [hbo']; exact hb'⟩
                          · rw [e5] at hb'; injection hb' with hb'; right; omega
                    · rw [r4]
                      exact .row _ (Value.slice qa ql qc).ownBlock _ _ _ (by rw [← hd.len]; exact getD_len _ _)
                · exact h.elim
              · exact h.elim
          · exact h.elim
        · exact h.elim
    · exact h.elim
  · -- call
    rename_i f args ts
    split at h
    · rename_i gf n caps hf
      obtain ⟨Post, hF, hk⟩ := h
      have hv := hev f; rw [hf] at hv
      obtain ⟨cvs, ef, hcv⟩ := hv.fn_inv
      have hargs : Vrs I g w (cvs.take n ++ (args.toList.map a.eval ++ cvs.drop n)) (withF n caps (args.toList.map (ev s))) := by
        rw [withF_eq]
        refine Vrs.append (hcv.take n) (Vrs.append ⟨by simp, fun i v d h1 h2 => ?_⟩ (hcv.drop n))
        rw [List.getElem?_map] at h1 h2
        cases hq : args.toList[i]? with
        | none => rw [hq] at h1; cases h1
        | some x =>
          rw [hq] at h1 h2
          injection h1 with h1; injection h2 with h2
          subst h1 h2
          exact hev x
      have hc := hF.2 w I g _ hW hd hargs
      have hmods : modsOf (.call ⟨.value f, args, ts⟩) s = foot s.h (withF n caps (args.toList.map (ev s))) := by simp [modsOf, hf]
      refine .inr (.inl ⟨gf, _, ?_, hc.mono (fun e w' hR => ?_)⟩)
      · have harr : ((cvs.take n).toArray ++ args.map a.eval) ++ (cvs.drop n).toArray = (cvs.take n ++ (args.toList.map a.eval ++ cvs.drop n)).toArray := by
          apply Array.toList_inj.1
          simp
        simp only [execOp, resolve, ef, Deferred.ofValue, Sem.run_bind, Sem.run_pure, Result.andThen_ok, invoke, harr, callFunc_run hF.1]
      · rcases hR with ⟨v, I', g', r, h', rfl, hp, q1, q2⟩ | ⟨ch, rfl, hp, q1⟩
        · exact .inl ⟨v, I', g', r, h', rfl, by simp only [hmods]; exact q1, q2, hk r h' hp⟩
        · exact .inr ⟨ch, rfl, hp, by simp only [hmods]; exact q1⟩
    · exact h.elim
  · -- panic
    rename_i x
    split at h
    · rename_i t hx
      have hv := hev x; rw [hx] at hv
      have e := hv.ifc_inv
      exact .inr (.inr ⟨_, by simp [execOp, Instr.panic, e, goPanic], h⟩)
    · exact h.elim
  · exact h.elim
end
end Go.Proofs.YtafomdobfmmleaaGreatDoor

/- Walks computed: the state of a call beside its memory (Inv); an operation, under its guard; a region in the order of its text. No program here. -/
namespace Go.Proofs.YtafomdobfmmleaaGreatDoor
open Go.RowKit
set_option linter.unusedSectionVars false
variable [Wd]
set_option linter.unusedVariables false

/-- where a call began -/
structure Cx where
  w0 : World
  I0 : Nat → Prop
  g0 : Ghost
  h0 : List AO
  n : Nat
  lo : Nat
  t0 : Array Value
/-- the state at hand is the data s -/
structure Inv (C : Cx) (I : Nat → Prop) (g : Ghost) (s : S) (a : Act) (w : World) : Prop where
  den : Den I g w s.h
  wd : Wd.W I w
  tmp : ∀ j, Vr I g w (a.tmps.getD j undef) (lk s.t j)
  sz : a.tmps.size = C.n
  dfr : a.defers = []
  kp : ∀ j, j < C.lo → a.tmps.getD j undef = C.t0.getD j undef
  ext : Ext (Owned C.g0 C.h0) C.w0 w
  i1 : ∀ b, C.I0 b → I b
  i2 : ∀ b, I b → C.I0 b ∨ Owned C.g0 C.h0 b ∨ C.w0.heap.size ≤ b
  ow : ∀ b, Owned g s.h b → Owned C.g0 C.h0 b ∨ C.w0.heap.size ≤ b
  gk : ∀ (o : Nat) p t cs, C.g0[o]? = some p → C.h0[o]? = some (.cells t cs) → g[o]? = some p
/-- where a panic may go -/
def PanX (C : Cx) (Qc : Exit → Act → World → Prop) : Prop := ∀ a w ch, Wd.pan ch → a.defers = [] → Ext (Owned C.g0 C.h0) C.w0 w → Qc (.panic ch) a w
theorem Inv.panX {C : Cx} {I : Nat → Prop} {g : Ghost} {s : S} {a : Act} {w w' : World} {M : List Nat} (h : Inv C I g s a w) (hx : Ext (OwnedIn M g s.h) w w') : Ext (Owned C.g0 C.h0) C.w0 w' :=
  h.ext.trans hx (fun x hx ho => by
    rcases h.ow x ho.owned with e | e
    · exact e
    · omega)
def IInv (C : Cx) (s : S) (a : Act) (w : World) : Prop := ∃ I g, Inv C I g s a w
section
variable {P : Program} {Q : Exit → S → Prop} {C : Cx} {I I' : Nat → Prop} {g g' : Ghost} {s s' : S} {a : Act} {w w' : World}
theorem Inv.ev (h : Inv C I g s a w) (x : Operand) : Vr I g w (a.eval x) (ev s x) := ev_ok h.tmp x
theorem Inv.step {M : List Nat} (h : Inv C I g s a w) (ht : s'.t = s.t) (k : Af I g w s.h M I' g' w' s'.h) : Inv C I' g' s' a w' where
  den := k.den
  wd := Wd.cl h.wd (fun b hb => k.ext.block b (h.den.inn b hb) (fun ho => by
    obtain ⟨o, ao, p, _, h1, h2, h3⟩ := ho
    exact h.den.own o ao p b h1 h2 h3 hb)) k.i1
  tmp j := by
    rw [ht]
    exact ((h.tmp j).ext k.ext (fun b hb ho => by
      obtain ⟨o, ao, p, _, h1, h2, h3⟩ := ho
      exact h.den.own o ao p b h1 h2 h3 hb)).mono k.i1 k.gx
  sz := h.sz
  dfr := h.dfr
  kp := h.kp
  ext := h.ext.trans k.ext (fun x hx ho => by
    rcases h.ow x ho.owned with e | e
    · exact e
    · omega)
  i1 b hb := k.i1 b (h.i1 b hb)
  i2 b hb := by
    have hsz := h.ext.size
    rcases k.i2 b hb with e | e | e
    · exact h.i2 b e
    · right; exact h.ow b e.owned
    · right; right; omega
  ow b hb := by
    have hsz := h.ext.size
    rcases k.ow h.den.len b hb with e | e
    · exact h.ow b e
    · right; omega
  gk o p t cs h1 h2 := k.gx o p (h.gk o p t cs h1 h2)
theorem put_tmps (a : Act) (d : Option Tmp) (v : Value) : (a.put d v).tmps.size = a.tmps.size := by
  cases d <;> simp [Act.put]
theorem put_defers (a : Act) (d : Option Tmp) (v : Value) : (a.put d v).defers = a.defers := by
  cases d <;> rfl
theorem Inv.put {E : En} (hE : E.n = C.n ∧ E.lo = C.lo) (h : Inv C I g s a w) {v : Value} {d : D} (hv : Vr I g w v d) {dst : Option Tmp} {k : S → T} (hk : (put E dst d s k).ok P Q) : ∃ s', s'.h = s.h ∧ Inv C I g s' (a.put dst v) w ∧ (k s').ok P Q := by
  cases dst with
  | none => exact ⟨s, rfl, h, hk⟩
  | some j =>
    simp only [Go.Proofs.YtafomdobfmmleaaGreatDoor.put] at hk
    cases hj' : Nat.blt j E.n && Nat.ble E.lo j with
    | false => rw [hj'] at hk; exact hk.elim
    | true =>
      rw [hj'] at hk
      rw [Bool.and_eq_true] at hj'
      obtain ⟨hj, hlo⟩ := hj'
      simp only [cond_true, force_eq] at hk
      replace hk : (k { s with t := (j, d) :: s.t }).ok P Q := by cases s; exact hk
      have hlt : j < a.tmps.size := by rw [h.sz, ← hE.1]; exact Nat.le_of_ble_eq_true hj
      refine ⟨{ s with t := (j, d) :: s.t }, rfl, ⟨h.den, h.wd, fun i => ?_, by rw [put_tmps]; exact h.sz, by rw [put_defers]; exact h.dfr, (fun i hi => by
        rw [← h.kp i hi]
        have hne : j ≠ i := by
          have := Nat.le_of_ble_eq_true hlo
          rw [hE.2] at this
          intro e
          subst e
          exact absurd hi (Nat.not_lt.2 this)
        simp only [Act.put]
        rw [Array.getD_eq_getD_getElem?, Array.getD_eq_getD_getElem?, Array.getElem?_setIfInBounds_ne hne]), h.ext, h.i1, h.i2, h.ow, h.gk⟩, hk⟩
      simp only [lk, Act.put]
      by_cases hij : i = j
      · subst hij
        have : Nat.beq i i = true := Nat.beq_refl i
        rw [this]
        simp [hlt]
        exact hv
      · have : Nat.beq i j = false := by
          cases hb : Nat.beq i j with
          | false => rfl
          | true => exact absurd (Nat.eq_of_beq_eq_true hb) hij
        rw [this]
        have e : (a.tmps.setIfInBounds j v).getD i undef = a.tmps.getD i undef := by
          simp only [Array.getD_eq_getD_getElem?]
          rw [Array.getElem?_setIfInBounds_ne (Ne.symm hij)]
        rw [e]
        exact h.tmp i
/-- what an operation leads to -/
theorem exec1_wp {E : En} (htb : E.tb.ok P) (hE : E.n = C.n ∧ E.lo = C.lo) (h : Inv C I g s a w) {o : Oper} {k : S → T} (hk : (exec1 E o.op o.type s (fun d s' => put E o.dst d s' k)).ok P Q) {K : Act → World → Prop} {Qc : Exit → Act → World → Prop} (hX : PanX C Qc) (hK : ∀ s' a' w', IInv C s' a' w' → (k s').ok P Q → K a' w') : o.wp P a w K Qc := by
  unfold exec1 at hk
  cases hw : isW E o.op s with
  | true =>
    rw [hw] at hk
    simp only [cond_true] at hk
    rcases execW_ok htb h.wd h.ev h.den (o := o) hk with ⟨v, w', I', g', d, s', hr, ht, ha, hv, hk'⟩ | ⟨f, vs, hr, hc⟩ | ⟨v, hr, hp⟩
    · have hi := h.step ht ha
      obtain ⟨s2, _, h2, hk2⟩ := hi.put hE hv hk'
      unfold Oper.wp
      rcases hr with hr | ⟨hr, rfl⟩
      · rw [hr]; exact hK _ _ _ ⟨_, _, h2⟩ hk2
      · rw [hr]; exact hK _ _ _ ⟨_, _, h2⟩ hk2
    · unfold Oper.wp
      rw [hr]
      refine hc.mono (fun e w' hR => ?_)
      rcases hR with ⟨v, I', g', d, h', rfl, ha, hv, hk'⟩ | ⟨ch, rfl, hp, hx⟩
      · have hi := h.step (s' := { s with h := h' }) rfl ha
        obtain ⟨s2, _, h2, hk2⟩ := hi.put hE hv hk'
        exact hK _ _ _ ⟨_, _, h2⟩ hk2
      · exact hX a w' ch hp h.dfr (h.panX hx)
    · unfold Oper.wp
      rw [hr]
      exact hX a w _ hp h.dfr h.ext
  | false =>
    rw [hw] at hk
    simp only [cond_false] at hk
    cases hl : isL E o.op s with
    | true =>
      rw [hl] at hk
      simp only [cond_true] at hk
      obtain ⟨v, d, hr, hv, hk'⟩ := execL_ok htb h.ev h.den (o := o) hk
      obtain ⟨s2, _, h2, hk2⟩ := h.put hE hv hk'
      unfold Oper.wp
      rw [hr w (fun _ _ _ => rfl) (fun _ _ _ _ _ _ _ _ => rfl)]
      exact hK _ _ _ ⟨_, _, h2⟩ hk2
    | false =>
      rw [hl] at hk
      simp only [cond_false] at hk
      obtain ⟨v, d, hr, hv, hk'⟩ := execP_ok htb h.ev h.den (o := o) hk
      obtain ⟨s2, _, h2, hk2⟩ := h.put hE hv hk'
      unfold Oper.wp
      rw [hr w]
      exact hK _ _ _ ⟨_, _, h2⟩ hk2
def lop : List Oper → Nat → Option Oper
  | [], _ => none
  | o :: _, 0 => some o
  | _ :: l, n + 1 => lop l n
theorem lop_get : ∀ (l : List Oper) (n : Nat), lop l n = l[n]?
  | [], _ => by simp [lop]
  | d :: _, 0 => by simp [lop]
  | _ :: l, n + 1 => by simp [lop, lop_get l n]
/-- is an operation wanted? some b: b tells; none: it cannot be told -/
def guardD (ops : List Oper) (o : Oper) (s : S) : Option Bool :=
  match o.guard with
  | none => some true
  | some (j, want) => match lop ops j with
    | some ⟨some t, _, _, _, _, _⟩ => match lk s.t t with
      | .bool b => some (b == want)
      | .tup _ => some false
      | _ => none
    | _ => none
theorem guardD_ok (h : Inv C I g s a w) {ops : Array Oper} {o : Oper} {b : Bool} (hg : guardD ops.toList o s = some b) : Region.wanted o (yielded ops a.tmps) = b := by
  unfold guardD at hg
  unfold Region.wanted
  split at hg
  · rename_i e
    injection hg with hg
    subst hg
    rw [e]
  · rename_i j want e
    rw [e]
    simp only
    split at hg
    · rename_i t _ _ _ _ _ hl
      rw [lop_get, Array.getElem?_toList] at hl
      have hv := h.tmp t
      split at hg
      · rename_i b' hb
        injection hg with hg
        subst hg
        rw [hb] at hv
        have e2 := hv.bool_inv
        have e3 : a.tmps[t]? = some (.bool b') := by
          cases hq : a.tmps[t]? with
          | none => rw [Array.getD_eq_getD_getElem?, hq] at e2; cases e2
          | some u => rw [Array.getD_eq_getD_getElem?, hq] at e2; simp at e2; rw [e2]
        simp [yielded, hl, e3]
      · rename_i ds hb
        injection hg with hg
        subst hg
        rw [hb] at hv
        obtain ⟨vs, e2, _⟩ := hv.tup_inv
        cases hq : a.tmps[t]? with
        | none => simp [yielded, hl, hq]
        | some u =>
          rw [Array.getD_eq_getD_getElem?, hq] at e2
          simp at e2
          subst e2
          simp [yielded, hl, hq]
      · cases hg
    · cases hg
/-- what a test has told: the temporary holds the truth -/
def lit (ops : List Oper) (s : S) (j : Nat) (v : Bool) : S :=
  match lop ops j with
  | some ⟨some t, _, _, _, _, _⟩ => match lk s.t t with
    | .bool _ => (match s with | ⟨l, h⟩ => ⟨(t, .bool v) :: l, h⟩)
    | _ => s
  | _ => s
theorem lit_ok (h : Inv C I g s a w) {ops : Array Oper} {o : Oper} {j : Nat} {want b : Bool} (hg : o.guard = some (j, want)) (hb : guardD ops.toList o s = some b) : Inv C I g (lit ops.toList s j (if b then want else !want)) a w ∧ (lit ops.toList s j (if b then want else !want)).h = s.h := by
  unfold guardD at hb
  rw [hg] at hb
  simp only at hb
  unfold lit
  split at hb
  · rename_i t _ _ _ _ _ hl
    simp only []
    cases hq : lk s.t t with
    | bool b' =>
      rw [hq] at hb
      simp only at hb
      injection hb with hb
      have hv : b' = (if b then want else !want) := by
        subst hb
        cases b' <;> cases want <;> rfl
      have key : ∀ i, Vr I g w (a.tmps.getD i undef) (lk ((t, .bool (if b then want else !want)) :: s.t) i) := by
        intro i
        simp only [lk]
        cases hbi : Nat.beq i t with
        | true =>
          have e := Nat.eq_of_beq_eq_true hbi
          have := h.tmp t
          rw [hq, hv] at this
          rw [e]
          exact this
        | false => exact h.tmp i
      cases s with
      | mk l hh => exact ⟨⟨h.den, h.wd, key, h.sz, h.dfr, h.kp, h.ext, h.i1, h.i2, h.ow, h.gk⟩, rfl⟩
    | _ => exact ⟨h, rfl⟩
  · cases hb
def execG (E : En) (ops : List Oper) (o : Oper) (s : S) (k : S → T) : T :=
  match o.guard with
  | none => exec1 E o.op o.type s (fun d s' => put E o.dst d s' k)
  | some (j, want) => match guardD ops o s with
    | some b => .br b (exec1 E o.op o.type (lit ops s j want) (fun d s' => put E o.dst d s' k)) (put E o.dst (.tup []) (lit ops s j (!want)) k)
    | none => .fail 50
def execR (E : En) (ops : List Oper) : List Oper → S → (S → T) → T
  | [], s, k => k s
  | o :: r, s, k => execG E ops o s (fun s' => execR E ops r s' k)
theorem execR_wp {E : En} (htb : E.tb.ok P) (hE : E.n = C.n ∧ E.lo = C.lo) {ops : Array Oper} {Qc : Exit → Act → World → Prop} {k : S → T} (hX : PanX C Qc) (hK : ∀ s' a' w', IInv C s' a' w' → (k s').ok P Q → Qc .normal a' w') :
    ∀ (l : List Oper) (s : S) (a : Act) (w : World), IInv C s a w → (execR E ops.toList l s k).ok P Q → wpList P ops Qc l a w
  | [], s, a, w, h, hk => hK _ _ _ h hk
  | o :: r, s, a, w, ⟨I, g, h⟩, hk => by
    simp only [execR, execG] at hk
    unfold wpList
    split at hk
    · rename_i e
      have hw : Region.wanted o (yielded ops a.tmps) = true := by unfold Region.wanted; rw [e]
      rw [if_pos hw]
      exact .inl (exec1_wp htb hE h hk hX (fun s' a' w' h' hk' => execR_wp htb hE hX hK r s' a' w' h' hk'))
    · rename_i j want e
      split at hk
      · rename_i b hb
        have hw := guardD_ok h hb
        rw [hw]
        have hlt := (lit_ok h e hb).1
        cases b with
        | true =>
          rw [if_pos rfl]
          exact .inl (exec1_wp htb hE hlt (hk.1 rfl) hX (fun s' a' w' h' hk' => execR_wp htb hE hX hK r s' a' w' h' hk'))
        | false =>
          rw [if_neg (by simp)]
          obtain ⟨s2, _, h2, hk2⟩ := hlt.put hE .undef (hk.2 rfl)
          exact execR_wp htb hE hX hK r _ _ _ ⟨_, _, h2⟩ hk2
      · exact hk.elim
end
end Go.Proofs.YtafomdobfmmleaaGreatDoor

/- Walks computed: a region that draws its order, by a plan: what only computes or reads is taken first, what changes memory comes where nothing else may. No program here. -/
namespace Go.Proofs.YtafomdobfmmleaaGreatDoor
open Go.RowKit
set_option linter.unusedSectionVars false
variable [Wd]
set_option linter.unusedVariables false

/-! orders: what is carried out turns what it may turn; S tells what has not been turned yet -/
section
variable {P : Program} {ops : Array Oper} {Q : Exit → Act → World → Prop} {S : Array Bool → World → Prop}
/-- whatever order is picked, and S holds behind every operation -/
def wpAnyG (P : Program) (ops : Array Oper) (Q : Exit → Act → World → Prop) (S : Array Bool → World → Prop) : Nat → Array Bool → Act → World → Prop
  | 0, L, a, w => Region.ready .any ops L = [] ∧ Q .normal a w
  | fuel + 1, L, a, w => (Region.ready .any ops L = [] → Q .normal a w) ∧
    ∀ i ∈ Region.ready .any ops L, Go.wpOp P ops Q i (fun a' w' => S (L.setIfInBounds i true) w' ∧ wpAnyG P ops Q S fuel (L.setIfInBounds i true) a' w') a w
theorem wpAny_of_G : ∀ (fuel : Nat) (L : Array Bool) (a : Act) (w : World), wpAnyG P ops Q S fuel L a w → wpAny P .any ops Q fuel L a w
  | 0, _, _, _, h => h
  | fuel + 1, _, _, _, h => ⟨h.1, fun i hi => wpOp_mono (fun a' w' h' => wpAny_of_G fuel _ a' w' h'.2) (h.2 i hi)⟩
/-- what has come up has all behind it that it waits for -/
def ClosedL (ops : Array Oper) (L : Array Bool) : Prop := ∀ (j : Nat) (oj : Oper), ops[j]? = some oj → L.getD j true = true → ∀ e ∈ oj.after, Region.binds .any e = true → L.getD e.on false = true
theorem ClosedL.start (ops : Array Oper) : ClosedL ops (Array.replicate ops.size false) := by
  intro j oj hj h
  have := (Array.getElem?_eq_some_iff.1 hj).1
  simp [Array.getD, this] at h
theorem getD_tf {L : Array Bool} {i : Nat} (h : L.getD i false = true) : L.getD i true = true := by
  unfold Array.getD at *
  split at h
  · rename_i hl; rw [dif_pos hl]; exact h
  · cases h
theorem ClosedL.step {L : Array Bool} (h : ClosedL ops L) {i : Nat} (hi : i ∈ Region.ready .any ops L) : ClosedL ops (L.setIfInBounds i true) := by
  intro j oj hj hd e he hb
  obtain ⟨_, oi, hoi, hall⟩ := mem_ready.1 hi
  by_cases hji : i = j
  · subst hji
    rw [hj] at hoi
    injection hoi with hoi
    subst hoi
    exact getD_set_true (hall e he hb)
  · rw [getD_set_ne true hji] at hd
    exact getD_set_true (h j oj hj hd e he hb)
/-- j waits for i, by whatever lies between -/
def waitsB (ops : List Oper) : Nat → Nat → Nat → Bool
  | 0, _, _ => false
  | n + 1, j, i => match lop ops j with
    | none => false
    | some o => o.after.toList.any fun e => Region.binds .any e && (Nat.beq e.on i || waitsB ops n e.on i)
theorem waitsB_ok {L : Array Bool} (h : ClosedL ops L) : ∀ (n j i : Nat), waitsB ops.toList n j i = true → (∀ o, ops[j]? = some o → ∀ e ∈ o.after, Region.binds .any e = true → L.getD e.on false = true) → L.getD i true = true
  | 0, j, i, hw, _ => by simp [waitsB] at hw
  | n + 1, j, i, hw, hj => by
    simp only [waitsB] at hw
    split at hw
    · cases hw
    · rename_i o ho
      rw [lop_get, Array.getElem?_toList] at ho
      obtain ⟨e, he, hb⟩ := List.any_eq_true.1 hw
      rw [Bool.and_eq_true, Bool.or_eq_true] at hb
      have he' : e ∈ o.after := Array.mem_toList_iff.1 he
      have hd := hj o ho e he' hb.1
      rcases hb.2 with q | q
      · rw [← Nat.eq_of_beq_eq_true q]; exact getD_tf hd
      · exact waitsB_ok h n e.on i q (fun o2 h2 e2 he2 hb2 => h e.on o2 h2 (getD_tf hd) e2 he2 hb2)
def earlyB (ops : List Oper) (mo : List Nat) (i : Nat) : Bool := mo.all fun j => waitsB ops ops.length j i && !(Nat.beq j i)
/-- an operation that yields its value as long as none of mo has come up is taken first, if these wait for it -/
theorem wpAnyG_first {i : Nat} {oi : Oper} {v : Value} {mo : List Nat} {Y : World → Prop} (hi : ops[i]? = some oi) (hsel : ∀ (j : Nat) (o : Oper) cs b, ops[j]? = some o → o.op ≠ .select cs b)
    (hQ : ∀ c a w, Q (.panic c) (a.put oi.dst v) w → Q (.panic c) a w) (hSY : ∀ L w, (∀ j ∈ mo, L.getD j true = false) → S L w → Y w) (hmo : earlyB ops.toList mo i = true) (hSw : ∀ L w, S (L.setIfInBounds i true) w → S L w) :
    ∀ (fuel : Nat) (L : Array Bool) (a : Act) (w : World), ClosedL ops L → (∀ j ∈ mo, L.getD j true = false) →
      (∀ j oj, ops[j]? = some oj → j ≠ i → L.getD j true = false → (∀ e ∈ oj.after, Region.binds .any e = true → e.on ≠ i) → oi.apart ops oj = true) →
      i ∈ Region.ready .any ops L → YieldsIf P ops Y oi v a → Y w → S (L.setIfInBounds i true) w →
      wpAnyG P ops Q S fuel (L.setIfInBounds i true) (a.put oi.dst v) w → wpAnyG P ops Q S (fuel + 1) L a w := by
  have hmi : ∀ j ∈ mo, j ≠ i := fun j hj e => by
    have := List.all_eq_true.1 hmo j hj
    rw [e, Nat.beq_refl] at this
    simp at this
  have notready : ∀ (L : Array Bool), ClosedL ops L → i ∈ Region.ready .any ops L → ∀ j ∈ mo, j ∉ Region.ready .any ops L := by
    intro L hc hr j hj hrj
    obtain ⟨_, oj, hoj, hall⟩ := mem_ready.1 hrj
    have hw := List.all_eq_true.1 hmo j hj
    rw [Bool.and_eq_true] at hw
    have := waitsB_ok hc _ j i hw.1 (fun o ho e he hb => by rw [hoj] at ho; injection ho with ho; subst ho; exact hall e he hb)
    rw [(mem_ready.1 hr).1] at this
    cases this
  intro fuel
  induction fuel with
  | zero =>
    intro L a w hcl hpen hfree hr hy hS hSi H
    refine ⟨fun h => (by rw [h] at hr; cases hr), fun j hj => ?_⟩
    by_cases hji : j = i
    · subst hji; exact hy.wpOp hi hS ⟨hSi, H⟩
    · have := ready_mono hj hji
      rw [H.1] at this
      cases this
  | succ fuel ih =>
    intro L a w hcl hpen hfree hr hy hS hSi H
    refine ⟨fun h => (by rw [h] at hr; cases hr), fun j hj => ?_⟩
    by_cases hji : j = i
    · subst hji; exact hy.wpOp hi hS ⟨hSi, H⟩
    · have h1 := H.2 j (ready_mono hj hji)
      obtain ⟨hjun, oj, hoj, hall⟩ := mem_ready.1 hj
      have hnot : ∀ e ∈ oj.after, Region.binds .any e = true → e.on ≠ i := fun e he hb heq => by
        have h1 := getD_tf (hall e he hb)
        rw [heq, (mem_ready.1 hr).1] at h1
        cases h1
      have hjm : j ∉ mo := fun hm => notready L hcl hr j hm hj
      have hpen1 : ∀ m ∈ mo, (L.setIfInBounds j true).getD m true = false := fun m hm => by
        rw [getD_set_ne true (show j ≠ m from fun e => hjm (by rw [e]; exact hm))]; exact hpen m hm
      have hpen2 : ∀ m ∈ mo, ((L.setIfInBounds i true).setIfInBounds j true).getD m true = false := fun m hm => by
        rw [getD_set_ne true (show j ≠ m from fun e => hjm (by rw [e]; exact hm)), getD_set_ne true (show i ≠ m from fun e => hmi m hm e.symm)]; exact hpen m hm
      have h2 := wpOp_putIf hoj (hfree j oj hoj hji hjun hnot) (fun cs b => hsel i oi cs b hi) (fun cs b => hsel j oj cs b hoj) hQ hy h1
      have hfree' : ∀ k ok, ops[k]? = some ok → k ≠ i → (L.setIfInBounds j true).getD k true = false →
          (∀ e ∈ ok.after, Region.binds .any e = true → e.on ≠ i) → oi.apart ops ok = true := fun k ok hk hki hun hno => by
        refine hfree k ok hk hki ?_ hno
        by_cases hjk : j = k
        · subst hjk; exact hjun
        · rw [getD_set_ne true hjk] at hun; exact hun
      refine wpOp_mono (fun a' w' h3 => ?_) h2
      obtain ⟨h3y, h3s, h3w⟩ := h3
      have e0 : (L.setIfInBounds i true).setIfInBounds j true = (L.setIfInBounds j true).setIfInBounds i true := Array.setIfInBounds_comm _ _ (Ne.symm hji)
      have hYw := hSY _ _ hpen2 h3s
      rw [e0] at h3s h3w
      exact ⟨hSw _ _ h3s, ih (L.setIfInBounds j true) a' w' (hcl.step hj) hpen1 hfree' (ready_mono hr (Ne.symm hji)) h3y hYw h3s h3w⟩
end
def alone (op : Op) : Bool :=
  match op with
  | .alloc _ | .box _ _ | .buildSlice _ _ _ | .store _ _ _ | .makeSlice _ _ _ => true
  | .call ⟨.builtin .append, _, _⟩ => true
  | .call ⟨.value _, _, _⟩ => true
  | _ => false
/-- the objects that are changed are of md, or new -/
def modsIn (hr : List AO) (md : List Nat) (ms : List Nat) : Bool := ms.all fun m => md.elem m || Nat.ble hr.length m
/-- which operations may change the objects md (numbers from 1000 on tell them; else all that come alone) -/
def aloneIx : List Oper → Nat → List Nat
  | [], _ => []
  | o :: l, i => bif alone o.op then i :: aloneIx l (i + 1) else aloneIx l (i + 1)
def moOf (ops : List Oper) (md : List Nat) : List Nat :=
  match md.filter (Nat.ble 1000) with
  | [] => aloneIx ops 0
  | l => l.map (· - 1000)
/-- what has been changed between L0 and L -/
def mdL (mo md : List Nat) (L0 L : Array Bool) : List Nat := bif mo.all (fun j => L0.getD j true || !L.getD j true) then [] else md
/-- may it be read first? -/
def loadT (ops : List Oper) (hr : List AO) (md : List Nat) (gr : Bool) (i : Nat) (op : Op) (s : S) (t : T) : T :=
  match readsOf op s with
  | some o => bif Nat.blt o hr.length then (bif md.elem o then .ask (earlyB ops (moOf ops md) i = true) t else t) else .fail 64
  | none => t
/-- an order of a region's operations; where more than one may come that change memory, one for each that comes first -/
inductive PT where
  | done
  | one (i : Nat) (al : Bool) (r : PT)
  | alt (i : Nat) (a r : PT)
def PT.heads : PT → List Nat
  | .one i true _ => [i]
  | .alt i _ r => i :: r.heads
  | _ => []
def PT.depth : PT → Nat
  | .done => 0
  | .one _ _ r => r.depth + 1
  | .alt _ a r => max (a.depth + 1) r.depth
def PT.of : List (Nat × Bool) → PT
  | [] => .done
  | (i, al) :: r => .one i al (PT.of r)
/-- the plan may be: where something comes alone nothing else may come up but what stands beside it; what is taken first is apart from the others -/
def planOk (ops : Array Oper) : PT → Array Bool → Bool → Bool
  | .done, L, ch => !ch && (Region.ready .any ops L).isEmpty
  | .one i false r, L, ch => !ch && ((ops[i]?).isSome && (Region.free .any ops L i && (Region.ready .any ops L).contains i)) && planOk ops r (L.setIfInBounds i true) false
  | .one i true r, L, ch => (ops[i]?).isSome && (ch || Region.ready .any ops L == [i]) && planOk ops r (L.setIfInBounds i true) false
  | .alt i a r, L, ch => (ops[i]?).isSome && (ch || Region.ready .any ops L == i :: r.heads) && (planOk ops a (L.setIfInBounds i true) false && planOk ops r L true)
/-- one operation; k: what then -/
def runA (E : En) (ops : List Oper) (hr : List AO) (md : List Nat) (i : Nat) (al gr : Bool) (k : Bool → S → T) (s : S) : T :=
  match lop ops i with
  | none => .fail 60
  | some o => match guardD ops o s with
    | none => .fail 61
    | some b =>
      let body := fun s : S => bif al then (bif modsIn hr (bif (moOf ops md).elem i then md else []) (modsOf o.op s) then exec1 E o.op o.type s (fun d s' => put E o.dst d s' (k true)) else .fail 62)
        else bif isW E o.op s then .fail 63
        else bif isL E o.op s then loadT ops hr md gr i o.op s (execL E o.op s (fun d => put E o.dst d s (k gr)))
        else execP E o.op s (fun d => put E o.dst d s (k gr))
      bif !al && (moOf ops md).elem i then .fail 63 else
      match o.guard with
      | none => body s
      | some (j, want) => .br b (body (lit ops s j want)) (put E o.dst (.tup []) (lit ops s j (!want)) (k gr))
def execA (E : En) (ops : List Oper) (hr : List AO) (md : List Nat) : PT → Bool → S → (S → T) → T
  | .done, _, s, k => k s
  | .one i al r, gr, s, k => runA E ops hr md i al gr (fun g s' => execA E ops hr md r g s' k) s
  | .alt i a r, gr, s, k => .both (runA E ops hr md i true gr (fun g s' => execA E ops hr md a g s' k) s) (execA E ops hr md r gr s k)
section
variable {P : Program} {Q : Exit → S → Prop} {C : Cx}
/-- the blocks of the objects md, and of those from number n on -/
def OwnX (md : List Nat) (n : Nat) (g : Ghost) (h : List AO) (b : Nat) : Prop := ∃ (o : Nat) (ao : AO) (p : Option Nat × Value), (o ∈ md ∨ n ≤ o) ∧ h[o]? = some ao ∧ g[o]? = some p ∧ ao.owns p b
/-- what has not been turned since L0 -/
def SB (mo md : List Nat) (n : Nat) (L0 : Array Bool) (g : Ghost) (h : List AO) (w : World) : Array Bool → World → Prop := fun L w' => Ext (OwnX (mdL mo md L0 L) n g h) w w'
theorem modsIn_ok {hr : List AO} {md ms : List Nat} (h : modsIn hr md ms = true) : ∀ m ∈ ms, m ∈ md ∨ hr.length ≤ m := by
  intro m hm
  have := List.all_eq_true.1 h m hm
  rw [Bool.or_eq_true] at this
  rcases this with e | e
  · left; simpa using e
  · right; exact Nat.le_of_ble_eq_true e
/-- L2 has all that L1 has -/
def LeL (L1 L2 : Array Bool) : Prop := ∀ j, L1.getD j true = true → L2.getD j true = true
theorem LeL.refl (L : Array Bool) : LeL L L := fun _ h => h
theorem LeL.set {L1 L2 : Array Bool} (h : LeL L1 L2) (i : Nat) : LeL L1 (L2.setIfInBounds i true) := fun j hj => by
  by_cases e : i = j
  · subst e
    unfold Array.getD
    split
    · simp
    · rfl
  · rw [getD_set_ne true e]; exact h j hj
theorem getD_set_self (L : Array Bool) (i : Nat) : (L.setIfInBounds i true).getD i true = true := by
  unfold Array.getD
  split
  · simp
  · rfl
theorem wpAnyG_mono {ops : Array Oper} {Qc : Exit → Act → World → Prop} {S S' : Array Bool → World → Prop} {L1 : Array Bool} (hS : ∀ L w, LeL L1 L → S L w → S' L w) : ∀ (fuel : Nat) (L : Array Bool) (a : Act) (w : World), LeL L1 L → wpAnyG P ops Qc S fuel L a w → wpAnyG P ops Qc S' fuel L a w
  | 0, _, _, _, _, h => h
  | fuel + 1, L, _, _, hl, h => ⟨h.1, fun i hi => wpOp_mono (fun a' w' h' => ⟨hS _ _ (hl.set i) h'.1, wpAnyG_mono hS fuel _ a' w' (hl.set i) h'.2⟩) (h.2 i hi)⟩
theorem mdL_pend {mo md : List Nat} {L0 L : Array Bool} (h : ∀ j ∈ mo, L.getD j true = false) : mdL mo md L0 L = [] := by
  unfold mdL
  have : mo.all (fun j => L0.getD j true || !L.getD j true) = true := List.all_eq_true.2 fun j hj => by rw [h j hj]; simp
  rw [this]; rfl
theorem mdL_out {mo md : List Nat} {L0 L : Array Bool} {i : Nat} (hi : i ∉ mo) : mdL mo md L0 (L.setIfInBounds i true) = mdL mo md L0 L := by
  unfold mdL
  congr 1
  have : ∀ j ∈ mo, (L0.getD j true || !(L.setIfInBounds i true).getD j true) = (L0.getD j true || !L.getD j true) := fun j hj => by
    rw [getD_set_ne true (show i ≠ j from fun e => hi (by rw [e]; exact hj))]
  induction mo with
  | nil => rfl
  | cons m mo ih =>
    rw [List.all_cons, List.all_cons, this m (by simp), ih (fun h => hi (by simp [h])) (fun j hj => this j (by simp [hj]))]
theorem mdL_base {mo md : List Nat} {L0 L : Array Bool} {i : Nat} (hi : i ∉ mo) : mdL mo md (L0.setIfInBounds i true) L = mdL mo md L0 L := by
  unfold mdL
  congr 1
  have : ∀ j ∈ mo, ((L0.setIfInBounds i true).getD j true || !L.getD j true) = (L0.getD j true || !L.getD j true) := fun j hj => by
    rw [getD_set_ne true (show i ≠ j from fun e => hi (by rw [e]; exact hj))]
  induction mo with
  | nil => rfl
  | cons m mo ih =>
    rw [List.all_cons, List.all_cons, this m (by simp), ih (fun h => hi (by simp [h])) (fun j hj => this j (by simp [hj]))]
theorem mdL_or (mo md : List Nat) (L0 L : Array Bool) : mdL mo md L0 L = [] ∨ (mdL mo md L0 L = md ∧ ∃ j ∈ mo, L0.getD j true = false ∧ L.getD j true = true) := by
  unfold mdL
  cases h : mo.all (fun j => L0.getD j true || !L.getD j true) with
  | true => exact .inl rfl
  | false =>
    obtain ⟨j, hj, hq⟩ := List.all_eq_false.1 h
    simp only [Bool.or_eq_true, Bool.not_eq_true', not_or, Bool.not_eq_true, Bool.not_eq_false] at hq
    exact .inr ⟨rfl, j, hj, hq⟩
theorem mdL_md {mo md : List Nat} {L0 L : Array Bool} {j : Nat} (hj : j ∈ mo) (h0 : L0.getD j true = false) (h1 : L.getD j true = true) : mdL mo md L0 L = md := by
  unfold mdL
  have : mo.all (fun j => L0.getD j true || !L.getD j true) = false := List.all_eq_false.2 ⟨j, hj, by rw [h0, h1]; simp⟩
  rw [this]; rfl
theorem mdL_sub {mo md : List Nat} {L0 L : Array Bool} {o : Nat} (h : o ∈ mdL mo md L0 L) : o ∈ md := by
  rcases mdL_or mo md L0 L with e | ⟨e, _⟩
  · rw [e] at h; simp at h
  · rw [e] at h; exact h
/-- what holds behind an operation was held against what stood ahead of it -/
theorem SB.back {mo md : List Nat} {n i : Nat} {L L2 : Array Bool} {I I' : Nat → Prop} {g g' : Ghost} {h h' : List AO} {w w' w2 : World} {M : List Nat} (hd : Den I g w h) (hM : ∀ m ∈ M, (i ∈ mo ∧ m ∈ md) ∨ n ≤ m) (hi : L.getD i true = false) (k : Af I g w h M I' g' w' h') (hl : LeL (L.setIfInBounds i true) L2) (hS : SB mo md n (L.setIfInBounds i true) g' h' w' L2 w2) : SB mo md n L g h w L2 w2 := by
  have hi2 : L2.getD i true = true := hl i (getD_set_self L i)
  have hMX : ∀ b, OwnedIn M g h b → OwnX (mdL mo md L L2) n g h b := by
    rintro b ⟨o, ao, p, hm, h1, h2, h3⟩
    refine ⟨o, ao, p, ?_, h1, h2, h3⟩
    rcases hM o hm with ⟨e1, e2⟩ | e
    · rw [mdL_md e1 hi hi2]; exact .inl e2
    · exact .inr e
  refine (k.ext.mono (fun b _ hb => hMX b hb)).trans hS (fun x hx ho => ?_)
  obtain ⟨o, ao', p, hm, h1, h2, h3⟩ := ho
  have hm' : o ∈ mdL mo md L L2 ∨ n ≤ o := by
    rcases hm with hm | hm
    · rcases mdL_or mo md (L.setIfInBounds i true) L2 with e | ⟨e, j, hj, e1, e2⟩
      · rw [e] at hm; simp at hm
      · rw [e] at hm
        have hj0 : L.getD j true = false := by
          cases hq : L.getD j true with
          | false => rfl
          | true => rw [(LeL.refl L).set i j hq] at e1; cases e1
        rw [mdL_md hj hj0 e2]
        exact .inl hm
    · exact .inr hm
  rcases Nat.lt_or_ge o h.length with hlt | hge
  · obtain ⟨ao, e1, e2⟩ := k.al o ao' p x hlt h1 h2 h3
    have hg : g[o]? = some (g[o]'(by rw [hd.len]; exact hlt)) := List.getElem?_eq_getElem _
    have := k.gx o _ hg
    rw [h2] at this
    injection this with this
    exact ⟨o, ao, p, hm', e1, by rw [hg, this], e2⟩
  · rcases k.nw o ao' p x hge h1 h2 h3 with e | e
    · exact hMX x e
    · omega
theorem SB.pass {mo md : List Nat} {n i : Nat} {L L2 : Array Bool} {g : Ghost} {h : List AO} {w w2 : World} (hi : L.getD i true = false) (hl : LeL (L.setIfInBounds i true) L2) (hS : SB mo md n (L.setIfInBounds i true) g h w L2 w2) : SB mo md n L g h w L2 w2 := by
  refine Ext.mono hS (fun x _ ho => ?_)
  obtain ⟨o, ao', p, hm, h1, h2, h3⟩ := ho
  refine ⟨o, ao', p, ?_, h1, h2, h3⟩
  rcases hm with hm | hm
  · rcases mdL_or mo md (L.setIfInBounds i true) L2 with e | ⟨e, j, hj, e1, e2⟩
    · rw [e] at hm; simp at hm
    · rw [e] at hm
      have hj0 : L.getD j true = false := by
        cases hq : L.getD j true with
        | false => rfl
        | true => rw [(LeL.refl L).set i j hq] at e1; cases e1
      rw [mdL_md hj hj0 e2]
      exact .inl hm
  · exact .inr hm
section
variable {E : En} {ops : Array Oper} {Qc : Exit → Act → World → Prop} {hr : List AO} {md : List Nat} {kk : Bool → S → T} {fuel i : Nat} {L : Array Bool} {gr : Bool} {s : S} {a : Act} {w : World} {I : Nat → Prop} {g : Ghost} {o : Oper}
/-- an operation that comes alone -/
theorem runA_alone (htb : E.tb.ok P) (hE : E.n = C.n ∧ E.lo = C.lo) (hX : PanX C Qc) (ho : ops[i]? = some o) (hri : i ∈ Region.ready .any ops L) (h : Inv C I g s a w) (hk : (runA E ops.toList hr md i true gr kk s).ok P Q)
    (hc : ∀ gr' s' a' w' I' g', Inv C I' g' s' a' w' → (kk gr' s').ok P Q → wpAnyG P ops Qc (SB (moOf ops.toList md) md hr.length (L.setIfInBounds i true) g' s'.h w') fuel (L.setIfInBounds i true) a' w') :
    Go.wpOp P ops Qc i (fun a' w' => SB (moOf ops.toList md) md hr.length L g s.h w (L.setIfInBounds i true) w' ∧ wpAnyG P ops Qc (SB (moOf ops.toList md) md hr.length L g s.h w) fuel (L.setIfInBounds i true) a' w') a w := by
  have hi0 := (mem_ready.1 hri).1
  have step : ∀ {g' : Ghost} {h' : List AO} {w' : World} {a' : Act}, (∀ L2 w2, LeL (L.setIfInBounds i true) L2 → SB (moOf ops.toList md) md hr.length (L.setIfInBounds i true) g' h' w' L2 w2 → SB (moOf ops.toList md) md hr.length L g s.h w L2 w2) → wpAnyG P ops Qc (SB (moOf ops.toList md) md hr.length (L.setIfInBounds i true) g' h' w') fuel (L.setIfInBounds i true) a' w' →
      SB (moOf ops.toList md) md hr.length L g s.h w (L.setIfInBounds i true) w' ∧ wpAnyG P ops Qc (SB (moOf ops.toList md) md hr.length L g s.h w) fuel (L.setIfInBounds i true) a' w' :=
    fun hb hg => ⟨hb _ _ (LeL.refl _) (Ext.refl _ _), wpAnyG_mono hb _ _ _ _ (LeL.refl _) hg⟩
  simp only [runA] at hk
  rw [lop_get, Array.getElem?_toList, ho] at hk
  simp only at hk
  cases hg : guardD ops.toList o s with
  | none => rw [hg] at hk; exact hk.elim
  | some b =>
    rw [hg] at hk
    simp only [Bool.not_true, Bool.false_and, cond_false] at hk
    have hw := guardD_ok h hg
    have main : ∀ s1 : S, Inv C I g s1 a w → s1.h = s.h → b = true → (bif true then (bif modsIn hr (bif (moOf ops.toList md).elem i then md else []) (modsOf o.op s1) then exec1 E o.op o.type s1 (fun d s' => put E o.dst d s' (kk true)) else .fail 62)
      else bif isW E o.op s1 then .fail 63
      else bif isL E o.op s1 then loadT ops.toList hr md gr i o.op s1 (execL E o.op s1 (fun d => put E o.dst d s1 (kk gr)))
      else execP E o.op s1 (fun d => put E o.dst d s1 (kk gr))).ok P Q → Go.wpOp P ops Qc i (fun a' w' => SB (moOf ops.toList md) md hr.length L g s.h w (L.setIfInBounds i true) w' ∧ wpAnyG P ops Qc (SB (moOf ops.toList md) md hr.length L g s.h w) fuel (L.setIfInBounds i true) a' w') a w := by
      intro s1 h1 e1 hb hq
      subst hb
      simp only [cond_true] at hq
      cases hm : modsIn hr (bif (moOf ops.toList md).elem i then md else []) (modsOf o.op s1) with
      | false => rw [hm] at hq; exact hq.elim
      | true =>
        rw [hm] at hq
        simp only [cond_true] at hq
        have hM : ∀ m ∈ modsOf o.op s1, (i ∈ moOf ops.toList md ∧ m ∈ md) ∨ hr.length ≤ m := fun m hm' => by
          rcases modsIn_ok hm m hm' with e | e
          · cases he : (moOf ops.toList md).elem i with
            | true => rw [he] at e; exact .inl ⟨by simpa using he, e⟩
            | false => rw [he] at e; simp at e
          · exact .inr e
        unfold Go.wpOp
        simp only [ho, hw, if_true]
        refine .inl ?_
        unfold exec1 at hq
        cases hW : isW E o.op s1 with
        | true =>
          rw [hW] at hq
          simp only [cond_true] at hq
          rcases execW_ok htb h1.wd h1.ev h1.den (o := o) hq with ⟨v, w', I', g', d, s', hrn, ht, ha, hv, hk'⟩ | ⟨f, vs, hrn, hcl⟩ | ⟨v, hrn, hp⟩
          · obtain ⟨s2, hs2, h2, hk2⟩ := (h1.step ht ha).put hE hv hk'
            have hfin := step (g' := g') (h' := s2.h) (fun L2 w2 hl hS => by rw [hs2] at hS; rw [← e1]; exact SB.back h1.den hM hi0 ha hl hS) (hc true s2 _ w' I' g' h2 hk2)
            unfold Oper.wp
            rcases hrn with hrn | ⟨hrn, rfl⟩
            · rw [hrn]; exact hfin
            · rw [hrn]; exact hfin
          · unfold Oper.wp
            rw [hrn]
            refine hcl.mono (fun e w' hR => ?_)
            rcases hR with ⟨v, I', g', d, h', rfl, ha, hv, hk'⟩ | ⟨ch, rfl, hp, hx⟩
            case inr => exact hX a w' ch hp h1.dfr (h1.panX hx)
            obtain ⟨s2, hs2, h2, hk2⟩ := (h1.step (s' := { s1 with h := h' }) rfl ha).put hE hv hk'
            exact step (g' := g') (h' := s2.h) (fun L2 w2 hl hS => by rw [hs2] at hS; rw [← e1]; exact SB.back h1.den hM hi0 ha hl hS) (hc true s2 _ w' I' g' h2 hk2)
          · unfold Oper.wp
            rw [hrn]
            exact hX a w _ hp h1.dfr h1.ext
        | false =>
          rw [hW] at hq
          simp only [cond_false] at hq
          have rest : ∀ v d, (execOp a.eval o).run P w = .ok (.value v) w → Vr I g w v d → (put E o.dst d s1 (kk true)).ok P Q → o.wp P a w (fun a' w' => SB (moOf ops.toList md) md hr.length L g s.h w (L.setIfInBounds i true) w' ∧ wpAnyG P ops Qc (SB (moOf ops.toList md) md hr.length L g s.h w) fuel (L.setIfInBounds i true) a' w') Qc := by
            intro v d hrn hv hk'
            obtain ⟨s2, hs2, h2, hk2⟩ := h1.put hE hv hk'
            unfold Oper.wp
            rw [hrn]
            exact step (g' := g) (h' := s2.h) (fun L2 w2 hl hS => by rw [hs2, e1] at hS; exact SB.pass hi0 hl hS) (hc true s2 _ w I g h2 hk2)
          cases hL : isL E o.op s1 with
          | true =>
            rw [hL] at hq
            simp only [cond_true] at hq
            obtain ⟨v, d, hrn, hv, hk'⟩ := execL_ok htb h1.ev h1.den (o := o) hq
            exact rest v d (hrn w (fun _ _ _ => rfl) (fun _ _ _ _ _ _ _ _ => rfl)) hv hk'
          | false =>
            rw [hL] at hq
            simp only [cond_false] at hq
            obtain ⟨v, d, hrn, hv, hk'⟩ := execP_ok htb h1.ev h1.den (o := o) hq
            exact rest v d (hrn w) hv hk'
    split at hk
    · rename_i e
      have hb : b = true := by
        have : guardD ops.toList o s = some true := by unfold guardD; rw [e]
        rw [hg] at this
        injection this
      exact main s h rfl hb hk
    · rename_i j want e
      have hlt := lit_ok h e hg
      cases b with
      | true => exact main _ hlt.1 hlt.2 rfl (hk.1 rfl)
      | false =>
        obtain ⟨s2, hs2, h2, hk2⟩ := hlt.1.put hE .undef (hk.2 rfl)
        have hrest := hc gr s2 _ w I g h2 hk2
        unfold Go.wpOp
        simp only [ho, hw]
        exact step (g' := g) (h' := s2.h) (fun L2 w2 hl hS => by rw [hs2, hlt.2] at hS; exact SB.pass hi0 hl hS) hrest
/-- an operation that is taken first -/
theorem runA_free (htb : E.tb.ok P) (hE : E.n = C.n ∧ E.lo = C.lo) (hcl : ClosedL ops L) (hsel : Region.noSelect ops = true) (hP : ∀ c a w d v, Qc (.panic c) (a.put d v) w → Qc (.panic c) a w) (ho : ops[i]? = some o) (hf1 : Region.free .any ops L i = true) (hf2 : (Region.ready .any ops L).contains i = true)
    (h : Inv C I g s a w) (hk : (runA E ops.toList hr md i false gr kk s).ok P Q)
    (hc : ∀ gr' s' a' w' I' g', Inv C I' g' s' a' w' → (kk gr' s').ok P Q → wpAnyG P ops Qc (SB (moOf ops.toList md) md hr.length (L.setIfInBounds i true) g' s'.h w') fuel (L.setIfInBounds i true) a' w') :
    wpAnyG P ops Qc (SB (moOf ops.toList md) md hr.length L g s.h w) (fuel + 1) L a w := by
  simp only [runA] at hk
  rw [lop_get, Array.getElem?_toList, ho] at hk
  simp only at hk
  cases hg : guardD ops.toList o s with
  | none => rw [hg] at hk; exact hk.elim
  | some b =>
    rw [hg] at hk
    simp only [Bool.not_false, Bool.true_and] at hk
    cases hmo : (moOf ops.toList md).elem i with
    | true => rw [hmo] at hk; exact hk.elim
    | false =>
    rw [hmo] at hk
    simp only [cond_false] at hk
    have him : i ∉ moOf ops.toList md := fun h => by
      have : (moOf ops.toList md).elem i = true := by simpa using h
      rw [hmo] at this; cases this
    have same : ∀ {s2 : S} {a2 : Act}, s2.h = s.h → wpAnyG P ops Qc (SB (moOf ops.toList md) md hr.length (L.setIfInBounds i true) g s2.h w) fuel (L.setIfInBounds i true) a2 w → wpAnyG P ops Qc (SB (moOf ops.toList md) md hr.length L g s.h w) fuel (L.setIfInBounds i true) a2 w := fun {s2 a2} e hq => by
      rw [e] at hq
      refine wpAnyG_mono (L1 := L.setIfInBounds i true) (fun L2 w2 _ hS => ?_) _ _ _ _ (LeL.refl _) hq
      unfold SB at hS ⊢
      rwa [mdL_base him] at hS
    have hSw : ∀ (L' : Array Bool) (w' : World), SB (moOf ops.toList md) md hr.length L g s.h w (L'.setIfInBounds i true) w' → SB (moOf ops.toList md) md hr.length L g s.h w L' w' := fun L' w' h => by
      unfold SB at h ⊢
      rwa [mdL_out him] at h
    have hext : SB (moOf ops.toList md) md hr.length L g s.h w (L.setIfInBounds i true) w := Ext.refl _ _
    have hmd : ∀ (L' : Array Bool) (w' : World), SB (moOf ops.toList md) md hr.length L g s.h w L' w' → Ext (OwnX md hr.length g s.h) w w' := fun L' w' h =>
      Ext.mono h (fun x _ ⟨o, ao, p, hm, h1, h2, h3⟩ => ⟨o, ao, p, hm.imp mdL_sub id, h1, h2, h3⟩)
    have hw := guardD_ok h hg
    have main : ∀ s1 : S, Inv C I g s1 a w → s1.h = s.h → b = true → (bif false then (bif modsIn hr (bif (moOf ops.toList md).elem i then md else []) (modsOf o.op s1) then exec1 E o.op o.type s1 (fun d s' => put E o.dst d s' (kk true)) else .fail 62)
      else bif isW E o.op s1 then .fail 63
      else bif isL E o.op s1 then loadT ops.toList hr md gr i o.op s1 (execL E o.op s1 (fun d => put E o.dst d s1 (kk gr)))
      else execP E o.op s1 (fun d => put E o.dst d s1 (kk gr))).ok P Q → wpAnyG P ops Qc (SB (moOf ops.toList md) md hr.length L g s.h w) (fuel + 1) L a w := by
      intro s1 h1 e1 hb hq
      subst hb
      simp only [cond_false] at hq
      cases hW : isW E o.op s1 with
      | true => rw [hW] at hq; exact hq.elim
      | false =>
        rw [hW] at hq
        simp only [cond_false] at hq
        have rest : ∀ (mo : List Nat) (Y : World → Prop) v d, earlyB ops.toList mo i = true → (∀ j ∈ mo, L.getD j true = false) → (∀ L' w', (∀ j ∈ mo, L'.getD j true = false) → SB (moOf ops.toList md) md hr.length L g s.h w L' w' → Y w') → Y w → (∀ w', Y w' → (execOp a.eval o).run P w' = .ok (.value v) w') → Vr I g w v d → (put E o.dst d s1 (kk gr)).ok P Q → wpAnyG P ops Qc (SB (moOf ops.toList md) md hr.length L g s.h w) (fuel + 1) L a w := by
          intro mo Y v d hearly hpen hSY hY hrn hv hk'
          obtain ⟨s2, hs2, h2, hk2⟩ := h1.put hE hv hk'
          exact wpAnyG_first (mo := mo) (Y := Y) ho (Region.noSelect_spec hsel) (fun c a w => hP c a w _ _) hSY hearly hSw fuel L a w hcl hpen (Region.free_spec ho hf1) (by simpa using hf2) (.inl ⟨hw, hrn⟩) hY hext (same (by rw [hs2, e1]) (hc gr s2 _ w I g h2 hk2))
        cases hL : isL E o.op s1 with
        | true =>
          rw [hL] at hq
          simp only [cond_true] at hq
          unfold loadT at hq
          split at hq
          · rename_i n hn
            cases hnl : Nat.blt n hr.length with
            | false => rw [hnl] at hq; exact hq.elim
            | true =>
            rw [hnl] at hq
            simp only [cond_true] at hq
            have hn1 : n < hr.length := Nat.le_of_ble_eq_true hnl
            have key : ∀ (md' : List Nat) (w' : World), n ∉ md' → Ext (OwnX md' hr.length g s.h) w w' → ∀ (n' : Nat) ao p b, readsOf o.op s1 = some n' → s1.h[n']? = some ao → g[n']? = some p → ao.owns p b → w'.heap[b]? = w.heap[b]? := by
              intro md' w' hnm hx n' ao p b hn' k1 h2 h3
              rw [hn] at hn'
              injection hn' with hn'
              subst hn'
              refine hx.block b (h1.den.lt ⟨n, ao, p, k1, h2, h3⟩) (fun ⟨o2, ao2, p2, hm, q1, q2, q3⟩ => ?_)
              have := h1.den.sep n o2 ao ao2 p p2 b k1 (by rw [e1]; exact q1) h2 q2 h3 q3
              subst this
              rcases hm with hm | hm
              · exact hnm hm
              · omega
            cases hnm : md.elem n with
            | true =>
              rw [hnm] at hq
              simp only [cond_true] at hq
              obtain ⟨hearly, hq⟩ := hq
              have hpen : ∀ j ∈ moOf ops.toList md, L.getD j true = false := fun j hj => by
                have hwt := List.all_eq_true.1 hearly j hj
                rw [Bool.and_eq_true] at hwt
                cases hd : L.getD j true with
                | false => rfl
                | true =>
                  have := waitsB_ok hcl _ j i hwt.1 (fun o' ho' e he hb => hcl j o' ho' hd e he hb)
                  rw [(mem_ready.1 (show i ∈ Region.ready .any ops L by simpa using hf2)).1] at this
                  cases this
              obtain ⟨v, d, hrn, hv, hk'⟩ := execL_ok htb h1.ev h1.den (o := o) hq
              refine rest (moOf ops.toList md) (fun w' => Ext (OwnX [] hr.length g s.h) w w') v d hearly hpen (fun L' w' hp hx => by unfold SB at hx; rwa [mdL_pend hp] at hx) (Ext.refl _ _) (fun w' hx => hrn w' (fun hn' => by rw [hn] at hn'; cases hn') (key [] w' (by simp) hx)) hv hk'
            | false =>
              rw [hnm] at hq
              simp only [cond_false] at hq
              have hn2 : n ∉ md := fun hm => by
                have : md.elem n = true := by simpa using hm
                rw [this] at hnm
                cases hnm
              obtain ⟨v, d, hrn, hv, hk'⟩ := execL_ok htb h1.ev h1.den (o := o) hq
              exact rest [] (fun w' => Ext (OwnX md hr.length g s.h) w w') v d rfl (fun j hj => by simp at hj) (fun L' w' _ hx => hmd L' w' hx) (Ext.refl _ _) (fun w' hx => hrn w' (fun hn' => by rw [hn] at hn'; cases hn') (key md w' hn2 hx)) hv hk'
          · rename_i hn
            obtain ⟨v, d, hrn, hv, hk'⟩ := execL_ok htb h1.ev h1.den (o := o) hq
            refine rest [] (fun w' => Ext (OwnX md hr.length g s.h) w w') v d rfl (fun j hj => by simp at hj) (fun L' w' _ hx => hmd L' w' hx) (Ext.refl _ _) (fun w' hx => hrn w' (fun _ b hb => ?_) (fun n' ao p b hn' k1 h2 h3 => by rw [hn] at hn'; cases hn')) hv hk'
            refine hx.block b (h1.den.inn b hb) (fun ⟨o2, ao2, p2, _, q1, q2, q3⟩ => ?_)
            exact h1.den.own o2 ao2 p2 b (by rw [e1]; exact q1) q2 q3 hb
        | false =>
          rw [hL] at hq
          simp only [cond_false] at hq
          obtain ⟨v, d, hrn, hv, hk'⟩ := execP_ok htb h1.ev h1.den (o := o) hq
          exact rest [] (fun _ => True) v d rfl (fun j hj => by simp at hj) (fun _ _ _ _ => trivial) trivial (fun w' _ => hrn w') hv hk'
    split at hk
    · rename_i e
      have hb : b = true := by
        have : guardD ops.toList o s = some true := by unfold guardD; rw [e]
        rw [hg] at this
        injection this
      exact main s h rfl hb hk
    · rename_i j want e
      have hlt := lit_ok h e hg
      cases b with
      | true => exact main _ hlt.1 hlt.2 rfl (hk.1 rfl)
      | false =>
        obtain ⟨s2, hs2, h2, hk2⟩ := hlt.1.put hE .undef (hk.2 rfl)
        exact wpAnyG_first (mo := []) (Y := fun _ => True) ho (Region.noSelect_spec hsel) (fun c a w => hP c a w _ _) (fun _ _ _ _ => trivial) rfl hSw fuel L a w hcl (fun j hj => by simp at hj) (Region.free_spec ho hf1) (by simpa using hf2) (.inr ⟨hw, rfl⟩) trivial hext (same (by rw [hs2, hlt.2]) (hc gr s2 _ w I g h2 hk2))
end
theorem wpAnyG_done {ops : Array Oper} {Qc : Exit → Act → World → Prop} {S : Array Bool → World → Prop} {L : Array Bool} {a : Act} {w : World} (hr : Region.ready .any ops L = []) (h : Qc .normal a w) : ∀ fuel, wpAnyG P ops Qc S fuel L a w
  | 0 => ⟨hr, h⟩
  | _ + 1 => ⟨fun _ => h, by rw [hr]; simp⟩
theorem execA_both {E : En} (htb : E.tb.ok P) (hE : E.n = C.n ∧ E.lo = C.lo) {ops : Array Oper} {Qc : Exit → Act → World → Prop} (hX : PanX C Qc) (hsel : Region.noSelect ops = true) (hP : ∀ c a w d v, Qc (.panic c) (a.put d v) w → Qc (.panic c) a w) {k : S → T} (hK : ∀ s' a' w', IInv C s' a' w' → (k s').ok P Q → Qc .normal a' w')
    {hr : List AO} {md : List Nat} (pl : PT) :
    (∀ (fuel : Nat) (L : Array Bool) (gr : Bool) (s : S) (a : Act) (w : World) (I : Nat → Prop) (g : Ghost), ClosedL ops L → Inv C I g s a w → planOk ops pl L false = true → pl.depth ≤ fuel → (execA E ops.toList hr md pl gr s k).ok P Q → wpAnyG P ops Qc (SB (moOf ops.toList md) md hr.length L g s.h w) fuel L a w) ∧
    (∀ (fuel : Nat) (L : Array Bool) (gr : Bool) (s : S) (a : Act) (w : World) (I : Nat → Prop) (g : Ghost), ClosedL ops L → (∀ j ∈ pl.heads, j ∈ Region.ready .any ops L) → Inv C I g s a w → planOk ops pl L true = true → pl.depth ≤ fuel + 1 → (execA E ops.toList hr md pl gr s k).ok P Q → ∀ j ∈ pl.heads, Go.wpOp P ops Qc j (fun a' w' => SB (moOf ops.toList md) md hr.length L g s.h w (L.setIfInBounds j true) w' ∧ wpAnyG P ops Qc (SB (moOf ops.toList md) md hr.length L g s.h w) fuel (L.setIfInBounds j true) a' w') a w) := by
  induction pl with
  | done =>
    refine ⟨fun fuel L gr s a w I g hcl h hp hf hk => ?_, fun fuel L gr s a w I g hcl hrd h hp hf hk j hj => by simp [PT.heads] at hj⟩
    have hr : Region.ready .any ops L = [] := by
      simp only [planOk, Bool.and_eq_true] at hp
      exact List.isEmpty_iff.1 hp.2
    exact wpAnyG_done hr (hK _ _ _ ⟨I, g, h⟩ hk) fuel
  | one i al r ih =>
    have chain : ∀ (fuel : Nat) (L : Array Bool) (gr : Bool) (s : S) (a : Act) (w : World) (I : Nat → Prop) (g : Ghost), ClosedL ops L → i ∈ Region.ready .any ops L → Inv C I g s a w → (∃ ch, planOk ops (.one i true r) L ch = true) → r.depth ≤ fuel → (execA E ops.toList hr md (.one i true r) gr s k).ok P Q → Go.wpOp P ops Qc i (fun a' w' => SB (moOf ops.toList md) md hr.length L g s.h w (L.setIfInBounds i true) w' ∧ wpAnyG P ops Qc (SB (moOf ops.toList md) md hr.length L g s.h w) fuel (L.setIfInBounds i true) a' w') a w := by
      intro fuel L gr s a w I g hcl hri h ⟨ch, hp⟩ hf hk
      simp only [planOk, Bool.and_eq_true] at hp
      obtain ⟨⟨hp0, _⟩, hp2⟩ := hp
      obtain ⟨o, ho⟩ := Option.isSome_iff_exists.1 hp0
      exact runA_alone htb hE hX ho hri h hk (fun gr' s' a' w' I' g' h' hk' => ih.1 fuel _ gr' s' a' w' I' g' (hcl.step hri) h' hp2 hf hk')
    cases al with
    | true =>
      refine ⟨fun fuel L gr s a w I g hcl h hp hf hk => ?_, fun fuel L gr s a w I g hcl hrd h hp hf hk j hj => ?_⟩
      · cases fuel with
        | zero => simp [PT.depth] at hf
        | succ fuel =>
          have hrd : Region.ready .any ops L = [i] := by
            simp only [planOk, Bool.and_eq_true, Bool.false_or, beq_iff_eq] at hp
            exact hp.1.2
          refine ⟨fun h0 => (by rw [hrd] at h0; cases h0), fun j hj => ?_⟩
          have hj' := hj
          rw [hrd] at hj
          simp only [List.mem_singleton] at hj
          subst hj
          exact chain fuel L gr s a w I g hcl hj' h ⟨_, hp⟩ (by simp [PT.depth] at hf; exact hf) hk
      · have hj' := hrd j hj
        simp only [PT.heads, List.mem_singleton] at hj
        subst hj
        exact chain fuel L gr s a w I g hcl hj' h ⟨_, hp⟩ (by simp [PT.depth] at hf; exact hf) hk
    | false =>
      refine ⟨fun fuel L gr s a w I g hcl h hp hf hk => ?_, fun fuel L gr s a w I g hcl hrd h hp hf hk j hj => by simp [PT.heads] at hj⟩
      cases fuel with
      | zero => simp [PT.depth] at hf
      | succ fuel =>
        simp only [planOk, Bool.and_eq_true] at hp
        obtain ⟨⟨_, hp0, hp1, hp2⟩, hp3⟩ := hp
        obtain ⟨o, ho⟩ := Option.isSome_iff_exists.1 hp0
        exact runA_free htb hE hcl hsel hP ho hp1 hp2 h hk (fun gr' s' a' w' I' g' h' hk' => ih.1 fuel _ gr' s' a' w' I' g' (hcl.step (by simpa using hp2)) h' hp3 (by simp [PT.depth] at hf; exact hf) hk')
  | alt i b r iha ihr =>
    have chain : ∀ (fuel : Nat) (L : Array Bool) (gr : Bool) (s : S) (a : Act) (w : World) (I : Nat → Prop) (g : Ghost), ClosedL ops L → (∀ j ∈ (PT.alt i b r).heads, j ∈ Region.ready .any ops L) → Inv C I g s a w → (∃ ch, planOk ops (.alt i b r) L ch = true) → (PT.alt i b r).depth ≤ fuel + 1 → (execA E ops.toList hr md (.alt i b r) gr s k).ok P Q → ∀ j ∈ (PT.alt i b r).heads, Go.wpOp P ops Qc j (fun a' w' => SB (moOf ops.toList md) md hr.length L g s.h w (L.setIfInBounds j true) w' ∧ wpAnyG P ops Qc (SB (moOf ops.toList md) md hr.length L g s.h w) fuel (L.setIfInBounds j true) a' w') a w := by
      intro fuel L gr s a w I g hcl hrd h ⟨ch, hp⟩ hf hk j hj
      simp only [planOk, Bool.and_eq_true] at hp
      obtain ⟨⟨hp0, _⟩, hp2, hp3⟩ := hp
      simp only [PT.depth] at hf
      have hj' := hrd j hj
      simp only [PT.heads, List.mem_cons] at hj
      rcases hj with rfl | hj
      · obtain ⟨o, ho⟩ := Option.isSome_iff_exists.1 hp0
        exact runA_alone htb hE hX ho hj' h hk.1 (fun gr' s' a' w' I' g' h' hk' => iha.1 fuel _ gr' s' a' w' I' g' (hcl.step hj') h' hp2 (by omega) hk')
      · exact ihr.2 fuel L gr s a w I g hcl (fun j hj => hrd j (by simp [PT.heads, hj])) h hp3 (by omega) hk.2 j hj
    refine ⟨fun fuel L gr s a w I g hcl h hp hf hk => ?_, fun fuel L gr s a w I g hcl hrd h hp hf hk => chain fuel L gr s a w I g hcl hrd h ⟨_, hp⟩ hf hk⟩
    cases fuel with
    | zero => simp only [PT.depth] at hf; omega
    | succ fuel =>
      have hrd : Region.ready .any ops L = (PT.alt i b r).heads := by
        simp only [planOk, Bool.and_eq_true, Bool.false_or, beq_iff_eq] at hp
        exact hp.1.2
      refine ⟨fun h0 => (by rw [hrd] at h0; simp [PT.heads] at h0), ?_⟩
      rw [hrd]
      exact chain fuel L gr s a w I g hcl (fun j hj => by rw [hrd]; exact hj) h ⟨_, hp⟩ hf hk
theorem execA_wp {E : En} (htb : E.tb.ok P) (hE : E.n = C.n ∧ E.lo = C.lo) (hmix : P.follows .mixedOrders = true) {id : Nat} {ops : Array Oper} {Qc : Exit → Act → World → Prop} (hX : PanX C Qc) (hsel : Region.noSelect ops = true) (hP : ∀ c a w d v, Qc (.panic c) (a.put d v) w → Qc (.panic c) a w) {k : S → T} (hK : ∀ s' a' w', IInv C s' a' w' → (k s').ok P Q → Qc .normal a' w')
    {md : List Nat} (pl : PT) (s : S) (a : Act) (w : World) (I : Nat → Prop) (g : Ghost) (h : Inv C I g s a w.drew) (hp : planOk ops pl (Array.replicate ops.size false) false = true) (hf : pl.depth ≤ ops.size) (hk : (execA E ops.toList s.h md pl false s k).ok P Q) :
    (Code.region id ops true).wp P Qc a w :=
  wp_region_any hmix (wpAny_of_G _ _ _ _ ((execA_both htb hE hX hsel hP hK pl).1 ops.size _ false s a w.drew I g (ClosedL.start ops) h hp hf hk))
end
end Go.Proofs.YtafomdobfmmleaaGreatDoor

/- Walks computed: other names for the same objects; a state seen by fewer objects. No program here. -/
namespace Go.Proofs.YtafomdobfmmleaaGreatDoor
open Go.RowKit
set_option linter.unusedSectionVars false
variable [Wd]
set_option linter.unusedVariables false

theorem ln_get : ∀ (l : List Nat) (n : Nat), ln l n = l[n]?
  | [], _ => by simp [ln]
  | d :: _, 0 => by simp [ln]
  | _ :: l, n + 1 => by simp [ln, ln_get l n]
theorem rl_map (σ : List Nat) : ∀ ds : List D, D.ren.rl σ ds = ds.map (D.ren σ)
  | [] => rfl
  | d :: ds => by rw [D.ren.rl, rl_map σ ds]; rfl
theorem rl_get (σ : List Nat) (ds : List D) (i : Nat) : (D.ren.rl σ ds)[i]? = (ds[i]?).map (D.ren σ) := by rw [rl_map]; simp
theorem rl_len (σ : List Nat) (ds : List D) : (D.ren.rl σ ds).length = ds.length := by rw [rl_map]; simp
section
variable {I : Nat → Prop} {w : World} {σ : List Nat}
theorem Dr.ren_id {v : Value} {d : D} (h : Dr I w v d) : d.ren σ = d := by
  have key : ∀ (vs : List Value) (ds : List D), vs.length = ds.length → (∀ (i : Nat) v d, vs[i]? = some v → ds[i]? = some d → d.ren σ = d) → D.ren.rl σ ds = ds := by
    intro vs ds hl ih
    apply List.ext_getElem?
    intro i
    rw [rl_get]
    cases hd : ds[i]? with
    | none => rfl
    | some d =>
      have hlt : i < vs.length := by rw [hl]; exact (List.getElem?_eq_some_iff.1 hd).1
      simp [ih i _ d (List.getElem?_eq_getElem hlt) hd]
  induction h with
  | agg vs ds hl h1 h ih => simp only [D.ren]; rw [key vs ds hl ih]
  | tup vs ds hl h ih => simp only [D.ren]; rw [key vs ds hl ih]
  | fn f n vs ds hl h ih => simp only [D.ren]; rw [key vs ds hl ih]
  | _ => rfl
theorem Dr.ren_inv {v : Value} {d' : D} (h : Dr I w v d') : ∀ d : D, d.ren σ = d' → d = d' := by
  have key : ∀ (vs : List Value) (ds cs : List D), vs.length = ds.length → (∀ (i : Nat) v d, vs[i]? = some v → ds[i]? = some d → ∀ c : D, c.ren σ = d → c = d) → D.ren.rl σ cs = ds → cs = ds := by
    intro vs ds cs hl ih e
    apply List.ext_getElem?
    intro i
    have hi := congrArg (·[i]?) e
    simp only [rl_get] at hi
    cases hc : cs[i]? with
    | none => rw [hc] at hi; rw [← hi]; rfl
    | some c =>
      rw [hc] at hi
      simp only [Option.map_some] at hi
      have hlt : i < vs.length := by rw [hl]; exact (List.getElem?_eq_some_iff.1 hi.symm).1
      have := ih i _ _ (List.getElem?_eq_getElem hlt) hi.symm c rfl
      rw [← hi, ← this]
  induction h with
  | agg vs ds hl h1 h ih =>
    intro d e
    cases d <;> simp only [D.ren] at e <;> first
      | (cases e; done)
      | (injection e with e; rw [key vs ds _ hl ih e])
      | (split at e <;> cases e)
  | tup vs ds hl h ih =>
    intro d e
    cases d <;> simp only [D.ren] at e <;> first
      | (cases e; done)
      | (injection e with e; rw [key vs ds _ hl ih e])
      | (split at e <;> cases e)
  | fn f n vs ds hl h ih =>
    intro d e
    cases d <;> simp only [D.ren] at e <;> first
      | (cases e; done)
      | (injection e with e1 e3 e2; rw [e1, e3, key vs ds _ hl ih e2])
      | (split at e <;> cases e)
  | _ =>
    intro d e
    cases d <;> simp only [D.ren] at e <;> first
      | rfl
      | exact e
      | (cases e; done)
      | (split at e <;> cases e)
theorem Vr.down {g gs : Ghost} (hσ : ∀ (i o : Nat), σ[i]? = some o → gs[i]? = g[o]?) {v : Value} {d' : D} (h : Vr I g w v d') : ∀ d : D, d.ren σ = d' → Vr I gs w v d := by
  induction h with
  | rd h => intro d e; rw [h.ren_inv d e]; exact .rd h
  | any v =>
    intro d e
    cases d <;> simp only [D.ren] at e <;> first
      | exact .any v
      | (cases e; done)
      | (split at e <;> cases e)
  | ifc t =>
    intro d e
    cases d <;> simp only [D.ren] at e <;> first
      | (injection e with e; subst e; exact .ifc _)
      | (cases e; done)
      | (split at e <;> cases e)
  | nili =>
    intro d e
    cases d <;> simp only [D.ren] at e <;> first
      | (injection e with e; subst e; exact .nili)
      | (cases e; done)
      | (split at e <;> cases e)
  | ifn t x =>
    intro d e
    cases d <;> simp only [D.ren] at e <;> first
      | (injection e with e; subst e; exact .ifn t x)
      | (cases e; done)
      | (split at e <;> cases e)
  | ptr o off b bo h =>
    intro d e
    cases d <;> simp only [D.ren] at e <;> first
      | (cases e; done)
      | (split at e <;> first
        | (cases e; done)
        | (rename_i p hp
           injection e with e1 e2
           subst e1 e2
           rw [ln_get] at hp
           exact .ptr _ _ b bo (by rw [hσ _ _ hp]; exact h)))
  | row o bo a l c h =>
    intro d e
    cases d <;> simp only [D.ren] at e <;> first
      | (cases e; done)
      | (split at e <;> first
        | (cases e; done)
        | (rename_i p hp
           injection e with e1
           subst e1
           rw [ln_get] at hp
           exact .row _ bo a l c (by rw [hσ _ _ hp]; exact h)))
  | rowp o n i off b base l c bo h =>
    intro d e
    cases d <;> simp only [D.ren] at e <;> first
      | (cases e; done)
      | (split at e <;> first
        | (cases e; done)
        | (rename_i p hp
           injection e with e1 e2 e3 e4
           subst e1 e2 e3 e4
           rw [ln_get] at hp
           exact .rowp _ _ _ _ b base l c bo (by rw [hσ _ _ hp]; exact h)))
  | agg vs ds hl h1 h ih =>
    intro d e
    cases d <;> simp only [D.ren] at e <;> first
      | (cases e; done)
      | (split at e <;> cases e; done)
      | (injection e with e
         subst e
         refine .agg vs _ (by rw [hl, rl_len]) h1 (fun i v c hv hc => ih i v _ hv (by rw [rl_get, hc]; rfl) c rfl))
  | tup vs ds hl h ih =>
    intro d e
    cases d <;> simp only [D.ren] at e <;> first
      | (cases e; done)
      | (split at e <;> cases e; done)
      | (injection e with e
         subst e
         refine .tup vs _ (by rw [hl, rl_len]) (fun i v c hv hc => ih i v _ hv (by rw [rl_get, hc]; rfl) c rfl))
  | fn f n vs ds hl h ih =>
    intro d e
    cases d <;> simp only [D.ren] at e <;> first
      | (cases e; done)
      | (split at e <;> cases e; done)
      | (injection e with e1 e3 e
         subst e1 e3 e
         refine .fn _ _ vs _ (by rw [hl, rl_len]) (fun i v c hv hc => ih i v _ hv (by rw [rl_get, hc]; rfl) c rfl))
theorem Vr.up {g gs : Ghost} (hσ : ∀ (i : Nat) p, gs[i]? = some p → ∃ o, σ[i]? = some o ∧ g[o]? = some p) {v : Value} {d : D} (h : Vr I gs w v d) : Vr I g w v (d.ren σ) := by
  induction h with
  | rd h => rw [h.ren_id]; exact .rd h
  | any v => exact .any v
  | ifc t => exact .ifc t
  | nili => exact .nili
  | ifn t x => exact .ifn t x
  | ptr o off b bo h =>
    obtain ⟨p, h1, h2⟩ := hσ _ _ h
    simp only [D.ren, ln_get, h1]
    exact .ptr _ _ b bo h2
  | row o bo a l c h =>
    obtain ⟨p, h1, h2⟩ := hσ _ _ h
    simp only [D.ren, ln_get, h1]
    exact .row _ bo a l c h2
  | rowp o n i off b base l c bo h =>
    obtain ⟨p, h1, h2⟩ := hσ _ _ h
    simp only [D.ren, ln_get, h1]
    exact .rowp _ _ _ _ b base l c bo h2
  | agg vs ds hl h1 h ih =>
    refine .agg vs _ (by rw [rl_len]; exact hl) h1 (fun i v d hv hd => ?_)
    rw [rl_get] at hd
    cases hq : ds[i]? with
    | none => rw [hq] at hd; cases hd
    | some c => rw [hq] at hd; injection hd with hd; subst hd; exact ih i v c hv hq
  | tup vs ds hl h ih =>
    refine .tup vs _ (by rw [rl_len]; exact hl) (fun i v d hv hd => ?_)
    rw [rl_get] at hd
    cases hq : ds[i]? with
    | none => rw [hq] at hd; cases hd
    | some c => rw [hq] at hd; injection hd with hd; subst hd; exact ih i v c hv hq
  | fn f n vs ds hl h ih =>
    refine .fn f n vs _ (by rw [rl_len]; exact hl) (fun i v d hv hd => ?_)
    rw [rl_get] at hd
    cases hq : ds[i]? with
    | none => rw [hq] at hd; cases hd
    | some c => rw [hq] at hd; injection hd with hd; subst hd; exact ih i v c hv hq
end
theorem AO.owns_ren (σ : List Nat) (p : Option Nat × Value) (a : AO) (b : Nat) : (a.ren σ).owns p b ↔ a.owns p b := by cases a <;> exact Iff.rfl
section
variable {I : Nat → Prop} {w : World} {σ : List Nat}
theorem Vrs.down {g gs : Ghost} (hσ : ∀ (i o : Nat), σ[i]? = some o → gs[i]? = g[o]?) {vs : List Value} {ds : List D} (h : Vrs I g w vs (D.ren.rl σ ds)) : Vrs I gs w vs ds :=
  ⟨by rw [h.1, rl_len], fun i v d h1 h2 => (h.2 i v (d.ren σ) h1 (by rw [rl_get, h2]; rfl)).down hσ d rfl⟩
theorem Vrs.up {g gs : Ghost} (hσ : ∀ (i : Nat) p, gs[i]? = some p → ∃ o, σ[i]? = some o ∧ g[o]? = some p) {vs : List Value} {ds : List D} (h : Vrs I gs w vs ds) : Vrs I g w vs (D.ren.rl σ ds) := by
  refine ⟨by rw [rl_len]; exact h.1, fun i v d h1 h2 => ?_⟩
  rw [rl_get] at h2
  cases hq : ds[i]? with
  | none => rw [hq] at h2; cases h2
  | some c => rw [hq] at h2; injection h2 with h2; subst h2; exact (h.2 i v c h1 hq).up hσ
theorem Ro.down {g gs : Ghost} (hσ : ∀ (i o : Nat), σ[i]? = some o → gs[i]? = g[o]?) {p : Option Nat × Value} {a : AO} (h : Ro I g w p (a.ren σ)) : Ro I gs w p a := by
  cases a with
  | cells t cs =>
    obtain ⟨b, vs, rfl, hb, hv, h1⟩ := h
    exact ⟨b, vs, rfl, hb, hv.down hσ, h1⟩
  | row t n xs => exact h
  | gone => trivial
theorem Ro.up {g gs : Ghost} (hσ : ∀ (i : Nat) p, gs[i]? = some p → ∃ o, σ[i]? = some o ∧ g[o]? = some p) {p : Option Nat × Value} {a : AO} (h : Ro I gs w p a) : Ro I g w p (a.ren σ) := by
  cases a with
  | cells t cs =>
    obtain ⟨b, vs, rfl, hb, hv, h1⟩ := h
    exact ⟨b, vs, rfl, hb, hv.up hσ, h1⟩
  | row t n xs => exact h
  | gone => trivial
theorem View.lt {h h' : List AO} (V : View σ h h') {i o : Nat} (hi : σ[i]? = some o) : o < h.length := by
  have hlt : i < h'.length := by rw [← V.len]; exact (List.getElem?_eq_some_iff.1 hi).1
  exact (List.getElem?_eq_some_iff.1 (V.obj i o _ hi (List.getElem?_eq_getElem hlt))).1
/-- the ghosts of a view -/
def gv (σ : List Nat) (g : Ghost) : Ghost := σ.map fun o => (g[o]?).getD (none, .nilFunc)
theorem gv_get {g : Ghost} {h h' : List AO} (V : View σ h h') (hl : g.length = h.length) : ∀ (i o : Nat), σ[i]? = some o → (gv σ g)[i]? = g[o]? := by
  intro i o hi
  have hlt := V.lt hi
  rw [gv, List.getElem?_map, hi, Option.map_some, List.getElem?_eq_getElem (by omega : o < g.length)]
  rfl
theorem gv_inv {g : Ghost} {h h' : List AO} (V : View σ h h') (hl : g.length = h.length) {i : Nat} {p : Option Nat × Value} (hp : (gv σ g)[i]? = some p) : ∃ o, σ[i]? = some o ∧ g[o]? = some p := by
  cases hi : σ[i]? with
  | none => rw [gv, List.getElem?_map, hi] at hp; cases hp
  | some o => exact ⟨o, rfl, by rw [← gv_get V hl i o hi]; exact hp⟩
theorem Den.view {g : Ghost} {h h' : List AO} (hd : Den I g w h) (V : View σ h h') : Den I (gv σ g) w h' := by
  have hσ := gv_get V hd.len
  refine ⟨by rw [← V.len]; simp [gv], hd.inn, fun i a p h1 h2 => ?_, fun i a p b h1 h2 h3 => ?_, fun i j a a' p p' b h1 h1' h2 h2' h3 h3' => ?_⟩
  · obtain ⟨o, e1, e2⟩ := gv_inv V hd.len h2
    exact (hd.obj o _ p (V.obj i o a e1 h1) e2).down hσ
  · obtain ⟨o, e1, e2⟩ := gv_inv V hd.len h2
    exact hd.own o _ p b (V.obj i o a e1 h1) e2 ((AO.owns_ren σ p a b).2 h3)
  · obtain ⟨o, e1, e2⟩ := gv_inv V hd.len h2
    obtain ⟨o', e1', e2'⟩ := gv_inv V hd.len h2'
    have := hd.sep o o' _ _ p p' b (V.obj i o a e1 h1) (V.obj j o' a' e1' h1') e2 e2' ((AO.owns_ren σ p a b).2 h3) ((AO.owns_ren σ p' a' b).2 h3')
    subst this
    exact V.inj i j o e1 e1'
theorem Owned.view {g : Ghost} {h h' : List AO} (V : View σ h h') (hl : g.length = h.length) {b : Nat} (hb : Owned (gv σ g) h' b) : OwnedIn σ g h b := by
  obtain ⟨i, a, p, h1, h2, h3⟩ := hb
  obtain ⟨o, e1, e2⟩ := gv_inv V hl h2
  exact ⟨o, _, p, List.mem_of_getElem? e1, V.obj i o a e1 h1, e2, (AO.owns_ren σ p a b).2 h3⟩
end
end Go.Proofs.YtafomdobfmmleaaGreatDoor

/- Walks computed: the code of a function; what a function does with few objects it does beside any others. No program here. -/
namespace Go.Proofs.YtafomdobfmmleaaGreatDoor
open Go.RowKit
set_option linter.unusedSectionVars false
variable [Wd]
set_option linter.unusedVariables false

/-- how a region that draws is walked: the order, what comes alone; the objects that it changes -/
structure Plan where
  ord : List (Nat × Bool)
  md : List Nat
/-- the same, with orders beside one another -/
structure PlanT where
  t : PT
  md : List Nat
def Plan.t (p : Plan) : PlanT := ⟨PT.of p.ord, p.md⟩
def lp : List (Nat × PlanT) → Nat → Option PlanT
  | [], _ => none
  | (i, p) :: l, j => bif Nat.beq j i then some p else lp l j
def defOf : List Oper → Nat → Option Op
  | [], _ => none
  | o :: l, t => match o.dst with
    | some d => bif Nat.beq d t then some o.op else defOf l t
    | none => defOf l t
/-- the datum on which an operand rests, at a region's start -/
def rootOf (ops : List Oper) (s : S) : Nat → Operand → D
  | 0, _ => .any
  | n + 1, x => match x with
    | .tmp t => match defOf ops t with
      | some (.fieldAddr _ y _) => rootOf ops s n y
      | some (.nilCheck y) => rootOf ops s n y
      | some (.move y) => rootOf ops s n y
      | some _ => .any
      | none => ev s x
    | _ => ev s x
def rootsOf (ops : List Oper) (s : S) : List Oper → List D
  | [] => []
  | o :: l => match o.op with
    | .store _ a _ => rootOf ops s 8 a :: rootsOf ops s l
    | .call ⟨.builtin .append, args, _⟩ => match args.toList with
      | x :: _ => rootOf ops s 8 x :: rootsOf ops s l
      | [] => rootsOf ops s l
    | .call ⟨.value f, args, _⟩ => ev s f :: args.toList.map (rootOf ops s 8) ++ rootsOf ops s l
    | _ => rootsOf ops s l
def natural : List Oper → Nat → List (Nat × Bool)
  | [], _ => []
  | o :: l, i => (i, alone o.op) :: natural l (i + 1)
def planOf (PL : List (Nat × PlanT)) (id : Nat) (ops : List Oper) (s : S) : PlanT :=
  match lp PL id with
  | some p => p
  | none => ⟨PT.of (natural ops 0), foot s.h (rootsOf ops s ops)⟩
/-- the code computed; m: so many objects came in -/
def execC (E : En) (m : Nat) (PL : List (Nat × PlanT)) : Code → S → (Exit → S → T) → T
  | .skip, s, K => K .normal s
  | .region id ops false, s, K => execR E ops.toList ops.toList s (K .normal)
  | .region id ops true, s, K =>
    .ask ((planOk ops (planOf PL id ops.toList s).t (Array.replicate ops.size false) false && (Region.noSelect ops && Nat.ble (planOf PL id ops.toList s).t.depth ops.size)) = true)
      (execA E ops.toList s.h (planOf PL id ops.toList s).md (planOf PL id ops.toList s).t false s (K .normal))
  | .seq a b, s, K => execC E m PL a s fun e s' => match e with
    | .normal => execC E m PL b s' K
    | e => K e s'
  | .cond c a b, s, K => match ev s c with
    | .bool v => .br v (execC E m PL a s K) (execC E m PL b s K)
    | _ => .fail 70
  | .block id c, s, K => execC E m PL c s fun e s' => match e with
    | .exit id' => bif Nat.beq id' id then K .normal s' else K (.exit id') s'
    | e => K e s'
  | .loop c, s, K => .loop m s (fun s' => execC E m PL c s' .leaf) K
  | .exit id, s, K => K (.exit id) s
  | .ret, s, K => K .ret s
  | _, _, _ => .fail 71
theorem least {p : Nat → Prop} (h : ∃ n, p n) : ∃ n, p n ∧ ∀ m, p m → n ≤ m := by
  obtain ⟨n, hn⟩ := h
  induction n using Nat.strongRecOn with
  | _ n ih =>
    by_cases hq : ∃ m, m < n ∧ p m
    · obtain ⟨m, h1, h2⟩ := hq
      exact ih m h1 h2
    · exact ⟨n, hn, fun m hm => by
        rcases Nat.lt_or_ge m n with h | h
        · exact absurd ⟨m, h, hm⟩ hq
        · exact h⟩
section
variable {P : Program} {C : Cx}
theorem IInv.view {m : Nat} (hm : C.h0.length = m) {s s' : S} {a : Act} {w : World} (h : IInv C s a w) (V : Sv m s s') : IInv C s' a w := by
  obtain ⟨I, g, h⟩ := h
  obtain ⟨σ, V, hp, ht⟩ := V
  have hσ := gv_get V h.den.len
  refine ⟨I, gv σ g, h.den.view V, h.wd, fun j => ?_, h.sz, h.dfr, h.kp, h.ext, h.i1, h.i2, fun b hb => h.ow b (Owned.view V h.den.len hb).owned, fun o p t cs h1 h2 => ?_⟩
  · rcases ht j with e | e
    · rw [e]; exact .any _
    · exact (h.tmp j).down hσ _ e.symm
  · have hlt : o < m := by rw [← hm]; exact (List.getElem?_eq_some_iff.1 h2).1
    rw [hσ o o (hp o hlt)]
    exact h.gk o p t cs h1 h2
theorem execC_wp {E : En} (htb : E.tb.ok P) (hE : E.n = C.n ∧ E.lo = C.lo) {m : Nat} (hm : C.h0.length = m) (hmix : P.follows .mixedOrders = true) {PL : List (Nat × PlanT)} : ∀ (c : Code) {s : S} {a : Act} {w : World} {K : Exit → S → T} {Q : Exit → S → Prop} {Qc : Exit → Act → World → Prop},
    PanX C Qc → (∀ c a w d v, Qc (.panic c) (a.put d v) w → Qc (.panic c) a w) → (∀ e s' a' w', IInv C s' a' w' → (K e s').ok P Q → Qc e a' w') → IInv C s a w → (execC E m PL c s K).ok P Q → c.wp P Qc a w := by
  intro c
  induction c with
  | skip => intro s a w K Q Qc hX hP hK h hk; exact wp_skip (hK _ _ _ _ h hk)
  | region id ops draw =>
    intro s a w K Q Qc hX hP hK h hk
    cases draw with
    | false =>
      exact wp_region_list (execR_wp htb hE hX (fun s' a' w' h' hk' => hK _ _ _ _ h' hk') ops.toList s a w h hk)
    | true =>
      simp only [execC, T.ok] at hk
      obtain ⟨hpl, hk⟩ := hk
      simp only [Bool.and_eq_true] at hpl
      obtain ⟨hp, hsel, hlen⟩ := hpl
      replace hlen := Nat.le_of_ble_eq_true hlen
      obtain ⟨I, g, h⟩ := h
      have hB : B w w.drew := (Below.refl _ _).drew
      have h' : Inv C I g s a w.drew := h.step (M := []) rfl ⟨h.den.later hB, Ext.of_B hB, fun _ h => h, fun _ h => .inl h, fun _ _ h => h, fun _ _ _ => rfl, fun o ao p b _ h1 _ h3 => ⟨ao, h1, h3⟩, fun o ao p b hq h1 _ _ => by have := (List.getElem?_eq_some_iff.1 h1).1; omega⟩
      exact execA_wp htb hE hmix hX hsel hP (fun s' a' w' h' hk' => hK _ _ _ _ h' hk') _ s a w I g h' hp hlen hk
  | seq x y ihx ihy =>
    intro s a w K Q Qc hX hP hK h hk
    refine wp_seq (ihx (K := fun e s' => match e with
      | .normal => execC E m PL y s' K
      | e => K e s') (Q := Q) (fun a w ch h1 h2 h3 => hX a w ch h1 h2 h3) (fun c a w d v hq => hP c a w d v hq) (fun e s' a' w' h' hk' => ?_) h hk)
    cases e with
    | normal => exact ihy hX hP hK h' hk'
    | _ => exact hK _ _ _ _ h' hk'
  | cond c x y ihx ihy =>
    intro s a w K Q Qc hX hP hK h hk
    simp only [execC] at hk
    obtain ⟨I, g, h⟩ := h
    split at hk
    · rename_i v hc
      have hv := h.ev c
      rw [hc] at hv
      exact wp_cond_split hv.bool_inv (fun e => ihx hX hP hK ⟨I, g, h⟩ (hk.1 e)) (fun e => ihy hX hP hK ⟨I, g, h⟩ (hk.2 e))
    · exact hk.elim
  | block id c ih =>
    intro s a w K Q Qc hX hP hK h hk
    refine wp_block (ih (K := fun e s' => match e with
      | .exit id' => bif Nat.beq id' id then K .normal s' else K (.exit id') s'
      | e => K e s') (Q := Q) (fun a w ch h1 h2 h3 => hX a w ch h1 h2 h3) (fun c a w d v hq => hP c a w d v hq) (fun e s' a' w' h' hk' => ?_) h hk)
    cases e with
    | exit id' =>
      simp only [Exit.inBlock]
      cases hb : Nat.beq id' id with
      | true =>
        simp only [hb, cond_true] at hk'
        rw [if_pos (Nat.eq_of_beq_eq_true hb)]
        exact hK _ _ _ _ h' hk'
      | false =>
        simp only [hb, cond_false] at hk'
        rw [if_neg (fun e => by subst e; rw [Nat.beq_refl] at hb; cases hb)]
        exact hK _ _ _ _ h' hk'
    | _ => exact hK _ _ _ _ h' hk'
  | loop c ih =>
    intro s a w K Q Qc hX hP hK h hk
    simp only [execC, T.ok] at hk
    obtain ⟨Iv, μ, ⟨s1, V1, hI1⟩, hk⟩ := hk
    have hex : ∀ a w, (∃ s, IInv C s a w ∧ Iv s) → ∃ n, ∃ s, IInv C s a w ∧ Iv s ∧ μ s = n := fun a w ⟨s, h1, h2⟩ => ⟨_, s, h1, h2, rfl⟩
    classical
    let μ' : Act → World → Nat := fun a w => if hh : ∃ s, IInv C s a w ∧ Iv s then Classical.choose (least (hex a w hh)) else 0
    have hsp : ∀ a w (hh : ∃ s, IInv C s a w ∧ Iv s), μ' a w = Classical.choose (least (hex a w hh)) := fun a w hh => by simp only [μ', dif_pos hh]
    have hle : ∀ a w s, IInv C s a w → Iv s → μ' a w ≤ μ s := fun a w s h1 h2 => by
      have hh : ∃ s, IInv C s a w ∧ Iv s := ⟨s, h1, h2⟩
      rw [hsp a w hh]
      exact (Classical.choose_spec (least (hex a w hh))).2 _ ⟨s, h1, h2, rfl⟩
    have hat : ∀ a w, (∃ s, IInv C s a w ∧ Iv s) → ∃ s, IInv C s a w ∧ Iv s ∧ μ s = μ' a w := fun a w hh => by
      rw [hsp a w hh]
      exact (Classical.choose_spec (least (hex a w hh))).1
    refine wp_loop (fun a w => ∃ s, IInv C s a w ∧ Iv s) μ' ⟨s1, h.view hm V1, hI1⟩ (fun a w hh => ?_)
    obtain ⟨s0, h0, hI0, hμ⟩ := hat a w hh
    refine ih (K := .leaf) (fun a w ch h1 h2 h3 => hX a w ch h1 h2 h3) (fun c a w d v hq => hP c a w d v hq) (fun e s' a' w' h' hk' => ?_) h0 (hk s0 hI0)
    cases e with
    | normal =>
      obtain ⟨s2, V2, hI2, hlt⟩ := hk'
      have h2 := h'.view hm V2
      exact ⟨⟨s2, h2, hI2⟩, by have := hle a' w' s2 h2 hI2; omega⟩
    | exit id => exact hK _ _ _ _ h' hk'
    | goto l => exact hK _ _ _ _ h' hk'
    | ret => exact hK _ _ _ _ h' hk'
    | panic ch => exact hK _ _ _ _ h' hk'
    | outgrown => exact hK _ _ _ _ h' hk'
  | exit id => intro s a w K Q Qc hX hP hK h hk; exact wp_exit (hK _ _ _ _ h hk)
  | ret => intro s a w K Q Qc hX hP hK h hk; exact wp_ret (hK _ _ _ _ h hk)
  | _ => intro s a w K Q Qc hX hP hK h hk; exact hk.elim
end
end Go.Proofs.YtafomdobfmmleaaGreatDoor
