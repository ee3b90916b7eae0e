/- Lemmas and contracts, part 20. -/
import Derived.Test.YteaggenihhaajaaGreatZs19
/- StateSame: which cores are the same; a clone is the same, and its own (printed by gen_yl.py). -/
namespace Go.Proofs.YteaggenihhaajaaGreat
open Go.RowKit
set_option linter.unusedVariables false
set_option maxRecDepth 20000

/-- what stood before the blocks from N on -/
abbrev lawWd (N : Nat) : Wd where
  A b := b < N
  W I _ := ∀ b, b < N → I b
  aI h b hb := h b hb
  cl h _ hI b hb := hI b (h b hb)
def inS (a b : CoreD) : S := ⟨[(3, .ref (cCore b)), (2, .ref (cCore a))], []⟩
theorem p1_ok [Wd] (a b : CoreD) (ha : dCore.ok a) (hb : dCore.ok b) : (xC hotE 0 [(1, ⟨PT.of [(0, true), (1, false), (2, false), (3, false), (4, false), (6, false), (7, false), (5, true), (8, true), (9, false), (10, false), (11, false), (12, false), (13, false), (14, true), (15, false), (16, false)], []⟩)] (cL (cR (bodyOf Tryz.f6))) (inS a b) .leaf).ok Tryz.prog (fun e s => e = .normal ∧ Sv 0 s (inS a b)) := by
  have f1 := stSame_s a b ha hb
  have f2 := rwSame_s a b ha hb
  have f3 := stSame_s a a ha ha
  rw [eqB_true rfl] at f3
  generalize eqB a b = e at f1 f2
  cases e <;>
  repeat'
    (conv => arg 2; whnf)
    first
    | refine okAsk (by kernel_rfl) ?_
    | refine okFn begun_s rfl (Cos.refl _) ?_
    | refine okFn f1 rfl (Cos.refl _) ?_
    | refine okFn f2 rfl (Cos.refl _) ?_
    | refine okFn f3 rfl (Cos.refl _) ?_
    | refine okBrT ?_
    | refine okBrF ?_
    | exact ⟨rfl, Sv.mk' [] rfl trivial ⟨rfl, rfl, trivial⟩⟩
    | fail
theorem p3_ok [Wd] (a b : CoreD) (ha : dCore.ok a) : (xC hotE 0 [] (cL (cR (cR (bodyOf Tryz.f6)))) (inS a b) .leaf).ok Tryz.prog (fun e s => e = .normal ∧ Sv 0 s ⟨[(5, .ptr 0 0), (3, .ref (cCore b)), (2, .ref (cCore a))], [.cells 45 (oCore a)]⟩) := by
  repeat'
    (conv => arg 2; whnf)
    first
    | refine okAsk (by kernel_rfl) ?_
    | refine okFn (stClone_o a ha) rfl (Cos.refl _) ?_
    | exact ⟨rfl, Sv.mk' [0] rfl ⟨⟨rfl, rfl⟩, trivial⟩ ⟨rfl, rfl, rfl, trivial⟩⟩
    | fail
theorem p4_ok [Wd] (a b : CoreD) (ha : dCore.ok a) : (xC hotE 0 [] (cL (cR (cR (cR (bodyOf Tryz.f6))))) ⟨[(5, .ptr 0 0), (3, .ref (cCore b)), (2, .ref (cCore a))], [.cells 45 (oCore a)]⟩ .leaf).ok Tryz.prog (CutQ a) := by
  have f3 := rwSame_s a a ha ha
  rw [eqB_true rfl] at f3
  repeat'
    (conv => arg 2; whnf)
    first
    | refine okAsk (by kernel_rfl) ?_
    | refine okFn f3 rfl (Cos.cons (.refl _) (Cos.cons (oCore_co a) .nil)) ?_
    | refine okBrT ?_
    | refine okBrF ?_
    | exact cut_end (Sv.mk' [0] rfl ⟨⟨rfl, rfl⟩, trivial⟩ ⟨rfl, trivial⟩)
    | fail
theorem p63_ok [Wd] (a b : CoreD) (ha : dCore.ok a) : (xC hotE 0 [(63, ⟨PT.of [(0, false), (1, false), (2, true), (3, true), (4, false)], []⟩)] (cR (cR (cR (cR (cR (cR (cR (cR (cR (cR (cR (cR (bodyOf Tryz.f6))))))))))))) (inS a b) .leaf).ok Tryz.prog (fun e s => e = .ret ∧ lk s.t 4 = .bool true) := by
  have f3 := rwSame_s a a ha ha
  rw [eqB_true rfl] at f3
  repeat'
    (conv => arg 2; whnf)
    first
    | refine okAsk (by kernel_rfl) ?_
    | refine okFn (stClone_o a ha) rfl (Cos.refl _) ?_
    | refine okFn f3 rfl (Cos.cons (.refl _) (Cos.cons (oCore_co a) .nil)) ?_
    | exact ⟨rfl, rfl⟩
    | fail
theorem body0 : bodyOf Tryz.f6 = .seq (cL (bodyOf Tryz.f6)) (cR (bodyOf Tryz.f6)) := by kernel_rfl
theorem body1 : cR (bodyOf Tryz.f6) = .seq (cL (cR (bodyOf Tryz.f6))) (cR (cR (bodyOf Tryz.f6))) := by kernel_rfl
theorem body2 : cR (cR (bodyOf Tryz.f6)) = .seq (cL (cR (cR (bodyOf Tryz.f6)))) (cR (cR (cR (bodyOf Tryz.f6)))) := by kernel_rfl
theorem body3 : cR (cR (cR (bodyOf Tryz.f6))) = .seq (cL (cR (cR (cR (bodyOf Tryz.f6))))) (cR (cR (cR (cR (bodyOf Tryz.f6))))) := by kernel_rfl
theorem body4 : cR (cR (cR (cR (bodyOf Tryz.f6)))) = .seq (cL (cR (cR (cR (cR (bodyOf Tryz.f6)))))) (cR (cR (cR (cR (cR (bodyOf Tryz.f6)))))) := by kernel_rfl
theorem body5 : cR (cR (cR (cR (cR (bodyOf Tryz.f6))))) = .seq (cL (cR (cR (cR (cR (cR (bodyOf Tryz.f6))))))) (cR (cR (cR (cR (cR (cR (bodyOf Tryz.f6))))))) := by kernel_rfl
theorem body6 : cR (cR (cR (cR (cR (cR (bodyOf Tryz.f6)))))) = .seq (cL (cR (cR (cR (cR (cR (cR (bodyOf Tryz.f6)))))))) (cR (cR (cR (cR (cR (cR (cR (bodyOf Tryz.f6)))))))) := by kernel_rfl
theorem body7 : cR (cR (cR (cR (cR (cR (cR (bodyOf Tryz.f6))))))) = .seq (cL (cR (cR (cR (cR (cR (cR (cR (bodyOf Tryz.f6))))))))) (cR (cR (cR (cR (cR (cR (cR (cR (bodyOf Tryz.f6))))))))) := by kernel_rfl
theorem body8 : cR (cR (cR (cR (cR (cR (cR (cR (bodyOf Tryz.f6)))))))) = .seq (cL (cR (cR (cR (cR (cR (cR (cR (cR (bodyOf Tryz.f6)))))))))) (cR (cR (cR (cR (cR (cR (cR (cR (cR (bodyOf Tryz.f6)))))))))) := by kernel_rfl
theorem body9 : cR (cR (cR (cR (cR (cR (cR (cR (cR (bodyOf Tryz.f6))))))))) = .seq (cL (cR (cR (cR (cR (cR (cR (cR (cR (cR (bodyOf Tryz.f6))))))))))) (cR (cR (cR (cR (cR (cR (cR (cR (cR (cR (bodyOf Tryz.f6))))))))))) := by kernel_rfl
theorem body10 : cR (cR (cR (cR (cR (cR (cR (cR (cR (cR (bodyOf Tryz.f6)))))))))) = .seq (cL (cR (cR (cR (cR (cR (cR (cR (cR (cR (cR (bodyOf Tryz.f6)))))))))))) (cR (cR (cR (cR (cR (cR (cR (cR (cR (cR (cR (bodyOf Tryz.f6)))))))))))) := by kernel_rfl
theorem body11 : cR (cR (cR (cR (cR (cR (cR (cR (cR (cR (cR (bodyOf Tryz.f6))))))))))) = .seq (cL (cR (cR (cR (cR (cR (cR (cR (cR (cR (cR (cR (bodyOf Tryz.f6))))))))))))) (cR (cR (cR (cR (cR (cR (cR (cR (cR (cR (cR (cR (bodyOf Tryz.f6))))))))))))) := by kernel_rfl
theorem wpList_val {P : Program} {ops : Array Oper} {Q : Exit → Act → World → Prop} {o : Oper} {r : List Oper} {a : Act} {w w' : World} {v : Value} (hg : o.guard = none) (hrun : (execOp a.eval o).run P w = .ok (.value v) w') (h : wpList P ops Q r (a.put o.dst v) w') : wpList P ops Q (o :: r) a w := by
  unfold wpList
  rw [if_pos (by unfold Region.wanted; rw [hg])]
  refine .inl ?_
  unfold Oper.wp
  rw [hrun]
  exact h
theorem box_run {P : Program} {a : Act} {w : World} {dst : Option Tmp} {e ty : TypeId} {x : Operand} {pos : String} {after : Array Edge} {g : Option (Nat × Bool)} {cs : Array Value} (h : a.eval x = .agg cs) : (execOp a.eval ⟨dst, .box e x, ty, pos, after, g⟩).run P w = .ok (.value (.pointer (some ⟨w.heap.size, 0, none⟩))) (w.alloc (.cells cs e)) := by
  simp only [execOp, Instr.box, Sem.run_bind, Result.andThen_ok, newVar_run, Sem.run_pure, h]
  rfl
theorem Dr.ofBox [Old] {I : Nat → Prop} {w : World} {b : Nat} {t : TypeId} {vs : List Value} {cs : List D} (hb : Blk w b t vs.toArray) (hv : Drs I w vs cs) (h1 : ∀ v ∈ vs, v.oneCell' = true) (hI : I b) : Dr I w (.pointer (some ⟨b, 0, none⟩)) (.ref cs) := by
  refine .ref b 0 cs (fun j => vs.getD j undef) hI hb.lt (fun j d hj => ?_) (fun j d hj => ?_) (fun j d hj => ?_)
  all_goals
    have hlt : j < vs.length := by rw [hv.1]; exact (List.getElem?_eq_some_iff.1 hj).1
  · rw [Nat.zero_add, hb.cell]
    simp [hlt]
  · simp only [List.getD_eq_getElem?_getD, List.getElem?_eq_getElem hlt, Option.getD_some]
    exact h1 _ (List.getElem_mem hlt)
  · simp only [List.getD_eq_getElem?_getD, List.getElem?_eq_getElem hlt, Option.getD_some]
    exact hv.2 j _ d (List.getElem?_eq_getElem hlt) hj
theorem ext_none {w w' : World} (h : Ext (Owned [] []) w w') : B w w' := h.to_B (fun b _ ⟨o, ao, p, h, _⟩ => by simp at h)
theorem cut_hot (a : CoreD) (j : Nat) : isHot (lk (cutS a).t j) = none := by
  unfold cutS
  simp only [lk]
  cases Nat.beq j 5 <;> rfl
theorem in_tmp {a b : CoreD} [Wd] {I : Nat → Prop} {g : Ghost} {w : World} {ac : Act} {p0 p1 : Value} (h2 : ac.tmps.getD 2 undef = p0) (h3 : ac.tmps.getD 3 undef = p1) (d0 : Dr I w p0 (.ref (cCore a))) (d1 : Dr I w p1 (.ref (cCore b))) (j : Nat) : Vr I g w (ac.tmps.getD j undef) (lk (inS a b).t j) := by
  unfold inS
  simp only [lk]
  cases e3 : Nat.beq j 3 with
  | true => rw [Nat.eq_of_beq_eq_true e3, h3]; exact .rd d1
  | false =>
    cases e2 : Nat.beq j 2 with
    | true => rw [Nat.eq_of_beq_eq_true e2, h2]; exact .rd d0
    | false => exact .any _
theorem panicP {P : Program} {fn : Func} {R : Ending → World → Prop} {K : Act → World → Prop} (c : List PanicEntry) (a : Act) (w : World) (d : Option Tmp) (v : Value) (h : Exit.then K (bodyPost P fn R) (.panic c) (a.put d v) w) : Exit.then K (bodyPost P fn R) (.panic c) a w := by
  simp only [Exit.then, bodyPost] at h ⊢
  rw [put_defers] at h
  exact h
theorem panicP0 {P : Program} {fn : Func} {R : Ending → World → Prop} (c : List PanicEntry) (a : Act) (w : World) (d : Option Tmp) (v : Value) (h : bodyPost P fn R (.panic c) (a.put d v) w) : bodyPost P fn R (.panic c) a w := by
  simp only [bodyPost] at h ⊢
  rw [put_defers] at h
  exact h
theorem stSameLaw_c {inn inn' : Nat → Prop} {w : World} {csa csb : List Value} {a b : CoreD} (h : tCore.rd inn w csa a) (k : tCore.rd inn' w csb b) :
    Calls Tryz.prog 6 #[.agg csa.toArray, .agg csb.toArray] w fun e w' => e = .returned (.bool true) ∧ B w w' := by
  obtain ⟨wa, hwa⟩ : ∃ x, x = w.alloc (.cells csa.toArray 45) := ⟨_, rfl⟩
  obtain ⟨w1, hw1⟩ : ∃ x, x = wa.alloc (.cells csb.toArray 45) := ⟨_, rfl⟩
  letI : Wd := lawWd w1.heap.size
  obtain ⟨da, oa, ca⟩ := LkCore.to h
  obtain ⟨db, ob, cb⟩ := LkCore.to k
  have B0 : B w wa := by rw [hwa]; exact B.alloc' _ _
  have B1 : B wa w1 := by rw [hw1]; exact B.alloc' _ _
  have s0 : w.heap.size < wa.heap.size := by rw [hwa]; simp
  have s1 : wa.heap.size < w1.heap.size := by rw [hw1]; simp
  have B01 : B w w1 := B0.trans B1
  obtain ⟨p0, hp0⟩ : ∃ x, x = Value.pointer (some ⟨w.heap.size, 0, none⟩) := ⟨_, rfl⟩
  obtain ⟨p1, hp1⟩ : ∃ x, x = Value.pointer (some ⟨wa.heap.size, 0, none⟩) := ⟨_, rfl⟩
  have up : ∀ {J : Nat → Prop} {vs : List Value} {ds : List D}, Drs J w vs ds → Drs (fun x => x < w1.heap.size) w1 vs ds := fun hd =>
    (hd.lt.mono (fun x hx => Nat.lt_trans hx.2 (Nat.lt_trans s0 s1))).ext (Ext.of_B (own := fun _ => False) B01) (fun _ _ => id)
  have k0 : Blk w1 w.heap.size 45 csa.toArray := by
    have := Blk.new w 45 csa.toArray
    rw [← hwa] at this
    exact this.ext (Ext.of_B (own := fun _ => False) B1) id
  have k1 : Blk w1 wa.heap.size 45 csb.toArray := by
    have := Blk.new wa 45 csb.toArray
    rwa [← hw1] at this
  have d0 : Dr (fun x => x < w1.heap.size) w1 p0 (.ref (cCore a)) := by rw [hp0]; exact Dr.ofBox k0 (up da) ca (Nat.lt_trans s0 s1)
  have d1 : Dr (fun x => x < w1.heap.size) w1 p1 (.ref (cCore b)) := by rw [hp1]; exact Dr.ofBox k1 (up db) cb s1
  have hmix : Tryz.prog.follows .mixedOrders = true := by kernel_rfl
  refine calls_of_wp (fn := Tryz.f6) (c := bodyOf Tryz.f6) Tryz.func6 rfl ?_
  rw [body0]
  refine wp_seq ?_
  refine wp_region_list ?_
  refine wpList_val rfl (box_run (cs := csa.toArray) (by simp [Act.eval])) ?_
  rw [← hwa]
  refine wpList_val rfl (box_run (cs := csb.toArray) (by simp [Act.eval, Act.put])) ?_
  rw [← hw1]
  refine wpList_val (v := .bool false) (w' := w1) rfl rfl ?_
  rw [← hp0, ← hp1]
  obtain ⟨a1, ha1⟩ : ∃ x, x = (((Act.put { tmps := #[.agg csa.toArray, .agg csb.toArray] ++ Array.replicate (Tryz.f6.ntmps - (#[Value.agg csa.toArray, Value.agg csb.toArray] : Array Value).size) undef, defers := [] } (some 2) p0).put (some 3) p1).put (some 4) (.bool false)) := ⟨_, rfl⟩
  have hsz : a1.tmps.size = 244 := by rw [ha1]; simp [Act.put]
  have h2 : a1.tmps.getD 2 undef = p0 := by rw [ha1]; simp [Act.put, Array.getD_eq_getD_getElem?]
  have h3 : a1.tmps.getD 3 undef = p1 := by rw [ha1]; simp [Act.put, Array.getD_eq_getD_getElem?]
  have hdf : a1.defers = [] := by rw [ha1]; rfl
  suffices hgo : ∀ x, x = a1 → (cR (bodyOf Tryz.f6)).wp Tryz.prog (bodyPost Tryz.prog Tryz.f6 fun e w' => e = .returned (.bool true) ∧ B w w') x w1 from hgo _ ha1.symm
  rintro x rfl
  have noO : ∀ x, ¬ Owned [] [] x := fun x ⟨o, ao, p, h, _⟩ => by simp at h
  have inv1 : Inv ⟨w1, fun x => x < w1.heap.size, [], [], 244, 4, x.tmps⟩ (fun x => x < w1.heap.size) [] (inS a b) x w1 :=
    ⟨⟨rfl, fun b h => h, fun o ao p h => by simp [inS] at h, fun o ao p b h => by simp [inS] at h, fun o o' ao ao' p p' b h => by simp [inS] at h⟩, fun b hb => hb, in_tmp h2 h3 d0 d1, hsz, hdf, fun _ _ => rfl, Ext.refl _ _, fun _ h => h, fun _ h => .inl h, fun b hb => absurd hb (noO b), fun o p t cs h => by simp at h⟩
  rw [body1]
  refine wp_seq ?_
  refine execC_wp (C := ⟨w1, fun x => x < w1.heap.size, [], [], 244, 4, x.tmps⟩) (E := hotE) (m := 0) tyTab_ok ⟨rfl, rfl⟩ rfl hmix _ panicP (K := T.leaf) ?_ ⟨_, _, inv1⟩ (by rw [← xC_eq]; exact p1_ok a b oa ob)
  rintro e s' a2 w2 hi ⟨rfl, hv⟩
  replace hi := hi.view (m := 0) rfl hv
  show (cR (cR (bodyOf Tryz.f6))).wp _ _ _ _
  rw [body2]
  refine wp_seq ?_
  refine execC_wp (C := ⟨w1, fun x => x < w1.heap.size, [], [], 244, 4, x.tmps⟩) (E := hotE) (m := 0) tyTab_ok ⟨rfl, rfl⟩ rfl hmix _ panicP (K := T.leaf) ?_ hi (by rw [← xC_eq]; exact p3_ok a b oa)
  rintro e s' a3 w3 hi ⟨rfl, hv⟩
  replace hi := hi.view (m := 0) rfl hv
  show (cR (cR (cR (bodyOf Tryz.f6)))).wp _ _ _ _
  rw [body3]
  refine wp_seq ?_
  refine execC_wp (C := ⟨w1, fun x => x < w1.heap.size, [], [], 244, 4, x.tmps⟩) (E := hotE) (m := 0) tyTab_ok ⟨rfl, rfl⟩ rfl hmix _ panicP (K := T.leaf) ?_ hi (by rw [← xC_eq]; exact p4_ok a b oa)
  rintro e s' a4 w4 hi ⟨rfl, hv⟩
  replace hi := hi.view (m := 0) rfl hv
  show (cR (cR (cR (cR (bodyOf Tryz.f6))))).wp _ _ _ _
  obtain ⟨I, g, hv⟩ := hi
  have B14 : B w1 w4 := ext_none hv.ext
  have hc : HII ⟨w1, fun x => x < w1.heap.size, [], [], 244, 4, x.tmps⟩ I w4 (cutS a) a4 w4 := ⟨g, hv.den, fun j => .of (hv.tmp j) (cut_hot a j), hv.sz, hv.dfr, hv.kp, Hot.refl I w4⟩
  clear hv
  rw [body4]
  refine wp_seq ?_
  refine hxC_wp (E := hotE) tyTab_ok ⟨rfl, rfl⟩ _ (K := T.leaf) (Q := CutQ a) ?_ hc (hot0_ok a oa.2.2.2.2.2.2.1)
  clear hc
  rintro e s' a5 w5 hh ⟨rfl, hv⟩
  have hc := hh.view hv
  clear hh hv
  show (cR (cR (cR (cR (cR (bodyOf Tryz.f6)))))).wp _ _ _ _
  rw [body5]
  refine wp_seq ?_
  refine hxC_wp (E := hotE) tyTab_ok ⟨rfl, rfl⟩ _ (K := T.leaf) (Q := CutQ a) ?_ hc (hot1_ok a oa.2.2.2.2.2.2.2.2.2.2.1.1 (fun x hx => (oa.2.2.2.2.2.2.2.2.2.2.1.2 x hx).2.2.2.2.2.1.1))
  clear hc
  rintro e s' a6 w6 hh ⟨rfl, hv⟩
  have hc := hh.view hv
  clear hh hv
  show (cR (cR (cR (cR (cR (cR (bodyOf Tryz.f6))))))).wp _ _ _ _
  rw [body6]
  refine wp_seq ?_
  refine hxC_wp (E := hotE) tyTab_ok ⟨rfl, rfl⟩ _ (K := T.leaf) (Q := CutQ a) ?_ hc (hot2_ok a oa.2.2.2.2.2.1.1 (fun x hx => (oa.2.2.2.2.2.1.2 x hx).2.2.1))
  clear hc
  rintro e s' a7 w7 hh ⟨rfl, hv⟩
  have hc := hh.view hv
  clear hh hv
  show (cR (cR (cR (cR (cR (cR (cR (bodyOf Tryz.f6)))))))).wp _ _ _ _
  rw [body7]
  refine wp_seq ?_
  refine hxC_wp (E := hotE) tyTab_ok ⟨rfl, rfl⟩ _ (K := T.leaf) (Q := CutQ a) ?_ hc (hot3_ok a oa.2.2.2.2.2.2.2.2.2.1.1 (fun x hx => (oa.2.2.2.2.2.2.2.2.2.1.2 x hx).2))
  clear hc
  rintro e s' a8 w8 hh ⟨rfl, hv⟩
  have hc := hh.view hv
  clear hh hv
  show (cR (cR (cR (cR (cR (cR (cR (cR (bodyOf Tryz.f6))))))))).wp _ _ _ _
  rw [body8]
  refine wp_seq ?_
  refine hxC_wp (E := hotE) tyTab_ok ⟨rfl, rfl⟩ _ (K := T.leaf) (Q := CutQ a) ?_ hc (hot4_ok a oa.2.2.2.2.2.2.2.2.2.2.2.1.1 (fun x hx => (oa.2.2.2.2.2.2.2.2.2.2.2.1.2 x hx).2.2.2.2.1.1))
  clear hc
  rintro e s' a9 w9 hh ⟨rfl, hv⟩
  have hc := hh.view hv
  clear hh hv
  show (cR (cR (cR (cR (cR (cR (cR (cR (cR (bodyOf Tryz.f6)))))))))).wp _ _ _ _
  rw [body9]
  refine wp_seq ?_
  refine hxC_wp (E := hotE) tyTab_ok ⟨rfl, rfl⟩ _ (K := T.leaf) (Q := CutQ a) ?_ hc (hot5_ok a oa.2.2.2.2.2.2.2.2.2.2.2.2.1.1)
  clear hc
  rintro e s' a10 w10 hh ⟨rfl, hv⟩
  have hc := hh.view hv
  clear hh hv
  show (cR (cR (cR (cR (cR (cR (cR (cR (cR (cR (bodyOf Tryz.f6))))))))))).wp _ _ _ _
  rw [body10]
  refine wp_seq ?_
  refine hxC_wp (E := hotE) tyTab_ok ⟨rfl, rfl⟩ _ (K := T.leaf) (Q := CutQ a) ?_ hc (hot6_ok a oa.2.2.2.2.2.2.2.2.2.2.2.2.2.1.1)
  clear hc
  rintro e s' a11 w11 hh ⟨rfl, hv⟩
  have hc := hh.view hv
  clear hh hv
  show (cR (cR (cR (cR (cR (cR (cR (cR (cR (cR (cR (bodyOf Tryz.f6)))))))))))).wp _ _ _ _
  rw [body11]
  refine wp_seq ?_
  refine hxC_wp (E := hotE) tyTab_ok ⟨rfl, rfl⟩ _ (K := T.leaf) (Q := CutQ a) ?_ hc (hot7_ok a oa.2.2.2.2.2.2.2.1.2.1.1)
  clear hc
  rintro e s' a12 w12 hh ⟨rfl, hv⟩
  have hc := hh.view hv
  clear hh hv
  show (cR (cR (cR (cR (cR (cR (cR (cR (cR (cR (cR (cR (bodyOf Tryz.f6))))))))))))).wp _ _ _ _
  obtain ⟨g5, h5⟩ := hc
  have same : ∀ x, x < w1.heap.size → w12.heap[x]? = w1.heap[x]? := fun x hx => (h5.hot.ext.block x (Nat.lt_of_lt_of_le hx B14.size) (fun hi => hi.2 hx)).trans (B14.block x hx)
  have sz5 : w1.heap.size ≤ w12.heap.size := Nat.le_trans B14.size h5.hot.ext.size
  have inv2 : Inv ⟨w12, fun x => x < w1.heap.size, [], [], 244, 4, x.tmps⟩ (fun x => x < w1.heap.size) [] (inS a b) a12 w12 :=
    ⟨⟨rfl, fun b h => Nat.lt_of_lt_of_le h sz5, fun o ao p h => by simp [inS] at h, fun o ao p b h => by simp [inS] at h, fun o o' ao ao' p p' b h => by simp [inS] at h⟩, fun b hb => hb, in_tmp ((h5.kp 2 (show (2 : Nat) < 4 by decide)).trans h2) ((h5.kp 3 (show (3 : Nat) < 4 by decide)).trans h3) (d0.agree same) (d1.agree same), h5.sz, h5.dfr, h5.kp, Ext.refl _ _, fun _ h => h, fun _ h => .inl h, fun b hb => absurd hb (noO b), fun o p t cs h => by simp at h⟩
  refine execC_wp (C := ⟨w12, fun x => x < w1.heap.size, [], [], 244, 4, x.tmps⟩) (E := hotE) (m := 0) tyTab_ok ⟨rfl, rfl⟩ rfl hmix _ panicP0 (K := T.leaf) ?_ ⟨_, _, inv2⟩ (by rw [← xC_eq]; exact p63_ok a b oa)
  rintro e s' a6 w6 ⟨I6, g6, i6⟩ ⟨rfl, ht⟩
  have hr : resD hotE.tb s' Tryz.f6.results.toList = some [.bool true] := by
    show resD tyTab s' [.tmp 4] = _
    simp only [resD, ht]
  obtain ⟨v, hrun, hvr⟩ := results_ok tyTab_ok i6.den i6.tmp hr
  refine ⟨i6.dfr, v, hrun, by rw [show v = .bool true from hvr.bool_inv], ?_⟩
  have B56 : B w12 w6 := ext_none i6.ext
  refine ⟨?_, ?_, ?_, ?_, fun q hq => ?_⟩
  · exact B56.os.trans (h5.hot.ext.os.trans (B14.os.trans B01.os))
  · exact B56.tape.trans (h5.hot.ext.tape.trans (B14.tape.trans B01.tape))
  · exact B56.output.trans (h5.hot.ext.output.trans (B14.output.trans B01.output))
  · exact Nat.le_trans B01.size (Nat.le_trans sz5 B56.size)
  · have hq1 : q < w1.heap.size := Nat.lt_of_lt_of_le hq B01.size
    exact (B56.block q (Nat.lt_of_lt_of_le hq1 sz5)).trans ((same q hq1).trans (B01.block q hq))
end Go.Proofs.YteaggenihhaajaaGreat
