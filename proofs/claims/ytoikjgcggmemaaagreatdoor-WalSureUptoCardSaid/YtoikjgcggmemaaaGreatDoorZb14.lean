/- Lemmas and contracts, part 14. -/
import Derived.Test.YtoikjgcggmemaaaGreatDoorZb13
import Derived.RangeFuncNested
import Derived.RangeFuncBound
import Derived.RangeFuncCalls
import Derived.RangeFuncLeaves
import Derived.OwnWalkIn
import Derived.TacticsInMore
import Derived.LoopNIn
import Derived.LoopIn
/- A range over a function whose iterator keeps its state in a cell of its own: the caller's law, for a body that always goes on. No program here. -/
namespace Go.Proofs.YtoikjgcggmemaaaGreatDoor
open Go.RowKit Go.Deep
set_option linter.unusedVariables false

/-- how a body goes on -/
def goesOn (J : World → Prop) (W : World) : Exit → Act → World → Prop
  | .normal, _, W' => KeepsOthers W W' ∧ J W'
  | _, _, _ => False
/-- what may be done to the loop's own records -/
def Bears (B : Nat) (J : World → Prop) : Prop := (∀ W o, J W → J (W.alloc o)) ∧ ∀ W l o o', J W → B ≤ l → W.heap[l]? = some o → o.isCells = false → J (W.putObj l o')
theorem range_go {α : Type} {F : Fence} {n : Nat} {P : Program} {g : Operand} {ps : Array Tmp} {assign body : Code} {Q : Exit → Act → World → Prop} {a : Act} {w : World}
    (hro : F.round = none) (h1 : 1 ≤ n) {gf : Nat} {lb : Array Value} (hg : a.eval g = .func (.func gf) #[] lb) (hFg : F.fn gf) (eg : ∀ args w, (callFunc gf args).run P w = .ok (.enter gf args) w)
    {encs : α → Array Value} {S : List α → Prop} (hps : ∀ x, (encs x).size = ps.size) (J J2 : List α → World → Prop) (JY : List α → α → World → Prop) (hJ : ∀ s, Bears w.heap.size (J s)) (hJY : ∀ s x, Bears w.heap.size (JY s x)) (hJ2 : ∀ s, Bears w.heap.size (J2 s)) (h0 : J [] w) (a₁ : α → Act)
    (hassign : ∀ (l : Nat) (x : α) (W : World) (K : Act → World → Prop), K (a₁ x) W →
      assign.wpIn (F.inRound l) (n - 1 - 1) P (Exit.then K (fun _ _ _ => False)) { tmps := (ps.zip (encs x)).foldl (fun t (p, v) => t.setIfInBounds p v) a.tmps, defers := [] } W)
    (hbody : ∀ (l : Nat) (pre : List α) (x : α) (W : World), JY pre x W → body.wpIn (F.inRound l) (n - 1 - 1) P (goesOn (J2 (pre ++ [x])) W) (a₁ x) W)
    (hit : ∀ (l : Nat) (W1 : World) (T : World → Prop), (∀ A B, T A → KeepsOthers A B → T B) → T W1 → J [] W1 →
      (∀ pre x W, JY pre x W → T W → YieldAt F (n - 1 - 1) P l (encs x) W fun e W' => e = .returned (.bool true) ∧ J2 (pre ++ [x]) W' ∧ T W') →
      CallsIn F (n - 1) P gf (#[.func (.yield l) #[] #[]] ++ lb) W1 fun e W' => (∃ v, e = .returned v) ∧ ∃ xs, S xs ∧ J xs W' ∧ T W')
    (hdone : ∀ (D : Nat) (xs : List α) (W : World), w.heap.size ≤ D → S xs → J xs W → W.heap[D]? = some (.deferred (some [])) → Q .normal { a with defers := { target := .collected D, args := #[] } :: a.defers } W) :
    (Code.rangeFunc g ps assign body).wpIn F n P Q a w := by
  refine wpIn_rangeFunc fun fn hfn => ?_
  rw [hro]
  let D := w.heap.size
  let l := w.heap.size + 1
  let lp : LoopState → Option Code → Obj := fun st pe => .loop { state := st, pending := pe, fn := fn, tmps := a.tmps, params := ps, assign := assign, body := body, defers := w.heap.size }
  let W0 := (w.alloc (.deferred (some []))).alloc (lp .ready none)
  have eL : W0.heap[l]? = some (lp .ready none) := by
    have := World.alloc_heap_new (w.alloc (.deferred (some []))) (lp .ready none)
    rwa [World.size_alloc] at this
  have eD : W0.heap[D]? = some (.deferred (some [])) := (Below.heap_alloc _ _ _ (by simp [D])).trans (World.alloc_heap_new w _)
  let T : World → Prop := fun W => W.heap[l]? = some (lp .ready none) ∧ W.heap[D]? = some (.deferred (some []))
  have hT : ∀ A B, T A → KeepsOthers A B → T B := fun A B h k => ⟨k.same _ _ h.1 rfl, k.same _ _ h.2 rfl⟩
  have hJ0 : J [] W0 := (hJ []).1 _ _ ((hJ []).1 _ _ h0)
  refine ⟨l, [{ target := .collected w.heap.size, args := #[] }], W0, { target := .fn (.func gf) lb, args := #[.func (.yield l) #[] #[]] }, W0, gf, #[.func (.yield l) #[] #[]] ++ lb, W0, ?_, ?_, ?_, ?_, fun _ => h1, ?_⟩
  · exact run_enterLoop_outer _ _ _ _ _
  · simp only [resolve, hg]
    simp [go_sem]
  · intro f' hf'
    simp [Target.leads] at hf'
    subst hf'
    exact hFg
  · simp [invoke, go_sem, eg]
  · refine (hit l W0 T hT ⟨eL, eD⟩ hJ0 ?_).mono ?_
    · rintro pre x W hj ⟨hl, hd⟩
      have hlt : l < W.heap.size := (Array.getElem?_eq_some_iff.1 hl).1
      refine ⟨fn, _, assign, body, run_yield (P := P) (args := encs x) hl (hps x), roundIn_of_wpIn hfn (hassign _ x W _ ⟨_, run_beginRound hl rfl, ?_⟩)⟩
      have hl2 : (W.putObj l (lp .busy none)).heap[l]? = some (lp .busy none) := World.putObj_heap_same hlt
      have hd2 : (W.putObj l (lp .busy none)).heap[D]? = some (.deferred (some [])) := (World.putObj_heap_other (by simp [D, l])).trans hd
      refine wpIn_mono (hbody _ pre x _ ((hJY pre x).2 _ _ _ _ hj (by simp [l]) hl rfl)) ?_
      rintro e a3 W3 hp
      cases e with
      | normal =>
        obtain ⟨hk, hj2⟩ := hp
        have hl3 := hk.same _ _ hl2 rfl
        exact ⟨_, _, run_endRound (P := P) none hl3, rfl, (hJ2 _).2 _ _ _ _ hj2 (by simp [l]) hl3 rfl, World.putObj_heap_same (Array.getElem?_eq_some_iff.1 hl3).1, (World.putObj_heap_other (by simp [D, l])).trans (hk.same _ _ hd2 rfl)⟩
      | ret => exact hp.elim
      | exit id => exact hp.elim
      | goto t => exact hp.elim
      | panic ch => exact hp.elim
      | outgrown => exact hp.elim
    · rintro e W2 ⟨⟨v, rfl⟩, xs, hS, hj, hl, hd⟩
      exact ⟨none, _, run_endLoop (P := P) hl (by simp), hdone _ xs _ (Nat.le_refl _) hS ((hJ xs).2 _ _ _ _ hj (by simp [l]) hl rfl) ((World.putObj_heap_other (by simp [l])).trans hd)⟩
end Go.Proofs.YtoikjgcggmemaaaGreatDoor

/- The frames with which bytes begin, plain; objects made of cells alone. -/
namespace Go.Proofs.YtoikjgcggmemaaaGreatDoor
open Go.RowKit Go.Deep
set_option linter.unusedVariables false

theorem unframe_le {bs : List UInt8} {r : List UInt8 × Nat} (h : unframeF bs = some r) : r.2 ≤ bs.length ∧ 4 ≤ r.2 ∧ r.1.length ≤ bs.length := by
  unfold unframeF at h
  obtain ⟨⟨x, b1, e1⟩, hb⟩ : ∃ r, bytesS bs 0 524288 = r := ⟨_, rfl⟩
  rw [hb] at h
  obtain ⟨⟨s, b2, e2⟩, ht⟩ : ∃ t, takeS b1 e1 4 = t := ⟨_, rfl⟩
  simp only at h
  rw [ht] at h
  simp only at h
  split at h
  · cases h
  · rename_i he
    obtain rfl : e2 = 0 := by omega
    obtain ⟨rfl, h4, rfl, h5⟩ := takeS4 ht
    have := bytesS_read hb
    have hl : x.length + b1.length ≤ bs.length := by rw [this]; simp
    split at h
    · cases h
      exact ⟨by simp; omega, by simp, by simp; omega⟩
    · cases h
theorem unframe_frame {b x : List UInt8} (h : b.length ≤ 524288) : unframeF (frameF b ++ x) = some (b, (frameF b).length) := by
  have e1 : frameF b ++ x = enc b.length ++ b ++ (le4 (sumF (bodyF b)) ++ x) := by simp [frameF, bodyF]
  have e2 : bytesS (frameF b ++ x) 0 524288 = (b, le4 (sumF (bodyF b)) ++ x, 0) := by rw [e1]; exact bytesS_put (by omega) (by omega)
  have e3 : takeS (le4 (sumF (bodyF b)) ++ x) 0 4 = (le4 (sumF (bodyF b)), x, 0) := takeS_put (x := le4 (sumF (bodyF b)))
  have e4 : (frameF b ++ x).length - (le4 (sumF (bodyF b)) ++ x).length = (bodyF b).length := by simp [frameF, le4]
  unfold unframeF
  rw [e2]
  simp only
  rw [e3, if_neg (by simp), e4]
  have e5 : (frameF b ++ x).take (bodyF b).length = bodyF b := by simp [frameF]
  rw [e5, if_pos rfl]
  simp [frameF, le4]
/-- the records of the whole frames with which bytes begin, and their frames' sizes -/
def framesF (bs : List UInt8) : List (List UInt8 × Nat) :=
  match h : unframeF bs with
  | none => []
  | some r => r :: framesF (bs.drop r.2)
termination_by bs.length
decreasing_by
  have := unframe_le h
  simp; omega
theorem framesF_none {bs : List UInt8} (h : unframeF bs = none) : framesF bs = [] := by
  rw [framesF]; split
  · rfl
  · rename_i h2; rw [h] at h2; cases h2
theorem framesF_some {bs : List UInt8} {r : List UInt8 × Nat} (h : unframeF bs = some r) : framesF bs = r :: framesF (bs.drop r.2) := by
  rw [framesF]; split
  · rename_i h2; rw [h] at h2; cases h2
  · rename_i r2 h2; rw [h] at h2; cases h2; rfl

/-- what the object says it says of blocks of cells alone -/
def Asn.Cel (A : Asn) : Prop := ∀ own w, A.at_ own w → A.at_ (fun x => own x ∧ ∀ o, w.heap[x]? = some o → o.isCells = true) w
theorem row_cells {w : World} {e : TypeId} {sz n : Nat} {v : Value} {xs : List Value} (h : w.ownsRow 0 e sz v n xs) {g : Nat} (hg : v.ownBlock = some g) : ∀ o, w.heap[g]? = some o → o.isCells = true := by
  intro o ho
  rcases h.2 with ⟨rfl, _⟩ | ⟨g', cap, cur, rfl, _, hh, _⟩
  · simp [Value.ownBlock] at hg
  · have : g' = g := by simpa [Value.ownBlock] using hg
    subst this
    rw [hh] at ho
    cases ho
    rfl
theorem aBlk.cel (g : Nat) (t : TypeId) (cs : Array Value) : (aBlk g t cs).Cel := by
  rintro own w ⟨h1, h2⟩
  refine ⟨⟨h1, fun o ho => ?_⟩, h2⟩
  rw [h2] at ho
  cases ho
  rfl
theorem aRow.cel (e : TypeId) (sz : Nat) (v : Value) (n : Nat) (xs : List Value) : (aRow e sz v n xs).Cel :=
  fun own w ⟨h1, h2⟩ => ⟨h1, fun g hg => ⟨h2 g hg, row_cells h1 hg⟩⟩
theorem aBy.cel (v : Value) (b : List UInt8) : (aBy v b).Cel := aRow.cel _ _ _ _ _
theorem aPl.cel (v : Value) (M : List (List UInt8)) : (aPl v M).Cel :=
  fun own w ⟨vs, ⟨h1, h2⟩, h3, h4⟩ => ⟨vs, ⟨h1, fun g hg => ⟨h2 g hg, row_cells h1 hg⟩⟩, h3, fun i u b hu hb => let ⟨r1, r2, r3⟩ := h4 i u b hu hb; ⟨r1, r2, fun g hg => ⟨r3 g hg, row_cells r1 hg⟩⟩⟩
theorem Ext.putObj (w : World) (l : Nat) (o : Obj) : Ext (fun b => b = l) w (w.putObj l o) :=
  ⟨rfl, rfl, rfl, by simp, fun b hb hn => World.putObj_heap_other hn⟩
theorem Sep.putObj {W : World} {l : Nat} {o o' : Obj} (ho : W.heap[l]? = some o) (hno : o.isCells = false) : ∀ {L : List Asn} {U : Nat → Prop}, (∀ A ∈ L, A.Cel) → Sep W U L → Sep (W.putObj l o') U L
  | [], _, _, _ => trivial
  | A :: L, U, hc, ⟨own, h1, h2, h3⟩ => by
    refine ⟨fun x => own x ∧ ∀ o, W.heap[x]? = some o → o.isCells = true, fun b hb => ⟨(h1 b hb.1).1, by simp; exact (h1 b hb.1).2⟩, ?_, ?_⟩
    · refine A.ext (hc A (by simp) own W h2) (Ext.putObj W l o') ?_
      rintro b ⟨hb, hk⟩ rfl
      rw [hk _ ho] at hno
      cases hno
    · exact (Sep.putObj ho hno (fun A hA => hc A (by simp [hA])) h3).mono (fun b _ hb => ⟨hb.1, fun e => hb.2 e.1⟩)
theorem St.putObj {w0 W : World} {l : Nat} {o : Obj} (o' : Obj) {L : List Asn} (h : St w0 W L) (hc : ∀ A ∈ L, A.Cel) (hl : w0.heap.size ≤ l) (ho : W.heap[l]? = some o) (hno : o.isCells = false) : St w0 (W.putObj l o') L :=
  ⟨((Ext.of_B (own := fun b => b = l) h.1).trans_ (Ext.putObj W l o')).to_B (fun b hb e => by omega), Sep.putObj ho hno hc h.2⟩
theorem KeepsOthers.of_B {w w' : World} (h : B w w') : KeepsOthers w w' :=
  ⟨h.size, fun k o hk _ => (h.block k (Array.getElem?_eq_some_iff.1 hk).1).trans hk⟩
/-- 'append(l, x)' beside what is no cells -/
theorem St.plAppendK {W w : World} {L : List Asn} {x v : Value} {b : List UInt8} {M : List (List UInt8)} {ty : TypeId} (h : St W w (aPl v M :: aBy x b :: L)) (hb : b.length ≤ big) (hl : M.length + 1 ≤ 1099511627776) :
    ∃ A c w', (Builtin.append_ #[65, 65] ty #[v, .slice (some ⟨w.heap.size, 0, none⟩) 1 1]).run Tryz.prog (w.alloc (.cells #[x] 32)) = .ok (.slice A (M.length + 1) c) w' ∧ St W w' (aPl (.slice A (M.length + 1) c) (M ++ [b]) :: L) ∧ KeepsOthers w w' := by
  obtain ⟨own, ⟨o1, o2, k1, k2, k3, ⟨vs, ⟨h1, h2⟩, h3⟩, ⟨h4, h5⟩⟩, ho, hback⟩ := h.merge.focus
  obtain ⟨Ax, cx, rfl⟩ := own_slice h4
  have hBa := B.alloc' w (.cells #[.slice Ax b.length cx] 32)
  have hq1 := row_later h1 hBa
  obtain ⟨v', w', hrun, r4, x4, y4⟩ := append_Rd (P := Tryz.prog) (t := 65) (ty := ty) Tryz.underlying65 info47 rfl Nat.zero_lt_one hq1 (Rd.one w (.slice Ax b.length cx) 32) (by simp [Value.oneCell']) (by unfold maxLen; omega) (by omega) (Nat.zero_le _)
  obtain ⟨A, c, rfl⟩ := own_slice r4
  have hgx : Ext (fun g => some g = v.ownBlock) (w.alloc (.cells #[.slice Ax b.length cx] 32)) w' := (Ext.refl _ _).grown x4 (fun g e _ => e.symm)
  refine ⟨A, c, w', hrun, ?_, (KeepsOthers.alloc _ _).trans (KeepsOthers.of_grownBy x4 (fun j o e ho => row_cells hq1 e o ho))⟩
  have f7 := (h3.later hBa).ext hgx (fun g cs _ hB' e => row_ne hq1 hB' (by decide) e.symm)
  have q2 := row_later h4 hBa
  have q3 := row_ext q2 hgx (fun g hg e => row_row hq1 q2 (by decide) e.symm hg)
  have f8 := (f7.mono (own' := fun x => own x ∨ w.heap.size ≤ x) (fun g hg => .inl (k1 g hg))).snoc q3 hb (fun g hg => .inl (k2 g (h5 g hg)))
  refine hback w' (aPl (.slice A (M.length + 1) c) (M ++ [b])) ((Ext.of_B hBa).grown x4 (fun g e _ => k1 g (h2 g e))) ⟨_, ⟨by rw [List.length_append]; exact r4, fun g hg => ?_⟩, f8⟩
  rcases y4 with e | e
  · exact .inl (k1 g (h2 g (by rw [← e, hg])))
  · right; rw [e] at hg; injection hg with hg; simp at hg; omega
end Go.Proofs.YtoikjgcggmemaaaGreatDoor

/- The walk of the iterator frames$1: the frames with which bytes begin, one after the other; its variable in a cell of its own. -/
namespace Go.Proofs.YtoikjgcggmemaaaGreatDoor
open Go.RowKit Go.Deep
set_option linter.unusedVariables false
attribute [local go_sem] Oper.semAt_some

theorem St.onto {w0 w w' : World} {A : Asn} {L : List Asn} (h : St w0 w L) (k : St w w' [A]) : St w0 w' (A :: L) := by
  obtain ⟨hb, own, h1, h2, _⟩ := k
  exact h.add hb h2 (fun x e => (h1 x e).1)
theorem unframe_n {w : World} {u : Value} {bs : List UInt8} (hb : Bs w u bs) (hu : unframeF bs = none) : Calls Tryz.prog 74 #[u] w fun e w' => e = .returned (.tuple #[.slice none 0 0, .int .i64 0, .bool false]) ∧ B w w' :=
  (unframe_c hb).mono fun e w' h => by unfold UnPost at h; rw [hu] at h; exact h
theorem unframe_s {w : World} {u : Value} {bs : List UInt8} {r : List UInt8 × Nat} (hb : Bs w u bs) (hu : unframeF bs = some r) : Calls Tryz.prog 74 #[u] w fun e w' => ∃ v, e = .returned (.tuple #[v, .int .i64 (r.2 : Int), .bool true]) ∧ St w w' [aBy v r.1] :=
  (unframe_c hb).mono fun e w' h => by unfold UnPost at h; rw [hu] at h; exact h
/-- a frame: the record as a value, the record, the frame's size -/
abbrev Fx := Value × List UInt8 × Nat
/-- what is left behind some frames -/
def restF (b0 : List UInt8) (pre : List Fx) : List UInt8 := b0.drop (pre.map (·.2.2)).sum
theorem restF_snoc (b0 : List UInt8) (pre : List Fx) (x : Fx) : (restF b0 pre).drop x.2.2 = restF b0 (pre ++ [x]) := by
  simp [restF, List.drop_drop]
section
variable (w0 : World) (box : Nat) (b0 : List UInt8) (Y : List Fx → List Asn → Prop)
/-- between two rounds -/
def FrJ (pre : List Fx) (W : World) : Prop := ∃ rest A c L, rest = restF b0 pre ∧ framesF b0 = pre.map (·.2) ++ framesF rest ∧ Bs w0 (.slice A rest.length c) rest ∧ Y pre L ∧ St w0 W (aBlk box 32 #[.slice A rest.length c] :: L)
/-- a round begins -/
def FrY (pre : List Fx) (x : Fx) (W : World) : Prop := ∃ rest A c L, rest = restF b0 pre ∧ framesF b0 = pre.map (·.2) ++ framesF rest ∧ unframeF rest = some x.2 ∧ Bs w0 (.slice A rest.length c) rest ∧ Y pre L ∧ St w0 W (aBy x.1 x.2.1 :: aBlk box 32 #[.slice A rest.length c] :: L)
/-- a round is over -/
def Fr2 (pre : List Fx) (W : World) : Prop := ∃ pre' x rest A c L, pre = pre' ++ [x] ∧ rest = restF b0 pre' ∧ framesF b0 = pre'.map (·.2) ++ framesF rest ∧ unframeF rest = some x.2 ∧ Bs w0 (.slice A rest.length c) rest ∧ Y pre L ∧ St w0 W (aBlk box 32 #[.slice A rest.length c] :: L)
end
/-- how many bytes are still to come -/
def leftOf (box : Nat) (W : World) : Nat := match W.cell? ⟨box, 0, none⟩ with | some (.slice _ n _) => n | _ => 0
section
variable {w0 : World} {box : Nat} {b0 : List UInt8} {Y : List Fx → List Asn → Prop}
set_option maxRecDepth 100000 in
set_option maxHeartbeats 2000000 in
theorem frames1_in (n : Nat) (hn : 1 ≤ n) (l : Nat) (T : World → Prop) (hT : ∀ A B, T A → KeepsOthers A B → T B) (W1 : World) (hT1 : T W1) (h0 : FrJ w0 box b0 Y [] W1)
    (hY : ∀ pre x W, FrY w0 box b0 Y pre x W → T W → YieldAt Fence.wide (n - 1) Tryz.prog l #[x.1, .int .i64 (x.2.2 : Int)] W fun e W' => e = .returned (.bool true) ∧ Fr2 w0 box b0 Y (pre ++ [x]) W' ∧ T W') :
    CallsIn Fence.wide n Tryz.prog 78 #[.func (.yield l) #[] #[], .pointer (some ⟨box, 0, none⟩)] W1 fun e W' => (∃ v, e = .returned v) ∧ ∃ xs, framesF b0 = xs.map (·.2) ∧ FrJ w0 box b0 Y xs W' ∧ T W' := by
  refine callsIn_of_wp Tryz.func78 rfl trivial ?_ rfl
  simp only [Tryz.ntmps78, List.size_toArray, List.length_cons, List.length_nil, Nat.reduceAdd, Nat.reduceSub, Array.replicate_succ, Array.replicate_zero, List.push_toArray, List.append_toArray, List.nil_append, List.cons_append]
  gi_wp2
  gi_loopw [3] (fun _ wr => T wr ∧ ∃ pre, FrJ w0 box b0 Y pre wr) (fun p wr => leftOf box wr)
  case atStart => exact ⟨hT1, [], h0⟩
  case round =>
    obtain ⟨hTr, pre, rest, A, c, L, hre, hfr, hbs, hL, hS⟩ := hrel
    have HRE := Lib.hid hre
    clear hre
    have k0 := (aBlk.get hS).cell 0
    simp at k0
    have HS := Lib.hid hS
    cases hu : unframeF rest with
    | none =>
      have HU := Lib.hid (unframe_n (hbs.later hS.b) hu)
      gi_wp2_with (first
        | ((try refine ⟨trivial, ?_⟩); gi_at_call 74; (with_reducible refine (callsIn_wide.2 HU.out).mono ?_); rintro e w1 ⟨rfl, hb⟩; have H1 := Lib.hid (HS.out.later hb); have hT1 := hT _ _ hTr (KeepsOthers.of_B hb); clear hb))
      refine ⟨fun _ h => (by cases h), ?_⟩
      gi_wp2
      refine bodyPost_ret (results_none rfl _ _ _) rfl ?_
      refine ⟨⟨_, rfl⟩, pre, ?_, ⟨rest, A, c, L, HRE.out, hfr, hbs, hL, H1.out⟩, hT1⟩
      rw [hfr, framesF_none hu, List.append_nil]
    | some r =>
      have HU := Lib.hid (unframe_s (hbs.later hS.b) hu)
      gi_wp2_with (first
        | ((try refine ⟨trivial, ?_⟩); gi_at_call 74; (with_reducible refine (callsIn_wide.2 HU.out).mono ?_); rintro e w1 ⟨v, rfl, hk⟩; have H1 := Lib.hid (HS.out.onto hk); have hT1 := hT _ _ hTr (KeepsOthers.of_B hk.b); have hyy := hY pre (v, r) w1 ⟨rest, A, c, L, HRE.out, hfr, hu, hbs, hL, H1.out⟩ hT1; clear hk; obtain ⟨fn, tmps, assign, body, hy, hR⟩ := hyy; dsimp only at hy))
      refine hR.mono ?_
      rintro e W3 ⟨rfl, ⟨pre', x', rest', A', c', L', hpp, hre', hfr', hu', hbs', hL', hS'⟩, hT3⟩
      obtain ⟨rfl, rfl⟩ : pre = pre' ∧ (v, r) = x' := by
        have := List.append_inj' hpp (by simp)
        exact ⟨this.1, by simpa using this.2⟩
      obtain rfl : rest' = rest := hre'.trans HRE.out.symm
      have HRE' := Lib.hid hre'
      clear hre'
      obtain ⟨hr1, hr2, hr3⟩ := unframe_le hu'
      obtain ⟨A2, c2, s1, s2, hb2, _⟩ := hbs'.cut r.2 hr1
      have k3 := (aBlk.get hS').cell 0
      have f3 := (aBlk.get hS').frozen 0
      simp at k3
      have HS3 := Lib.hid hS'
      gi_wp2
      go_roundw
      case rel =>
        refine ⟨hT _ _ hT3 (KeepsOthers.setCell _ _ _), pre ++ [(v, r)], rest'.drop r.2, A2, c2, L', ?_, ?_, ?_, hL', ?_⟩
        · rw [HRE'.out]; exact restF_snoc b0 pre (v, r)
        · rw [hfr', framesF_some hu']; simp
        · rw [List.length_drop]; exact hb2
        · have := aBlk.set HS3.out 0 (.slice A2 (rest'.length - r.2) c2)
          rw [List.length_drop]
          exact this
      case measure =>
        unfold leftOf
        rw [(by have := (aBlk.get (aBlk.set HS3.out 0 (.slice A2 (rest'.length - r.2) c2))).cell 0; simpa using this : (W3.setCell ⟨box, 0, none⟩ (.slice A2 (rest'.length - r.2) c2)).cell? ⟨box, 0, none⟩ = some (.slice A2 (rest'.length - r.2) c2)), k0]
        simp; omega
end
end Go.Proofs.YtoikjgcggmemaaaGreatDoor

/- A segment's head. -/
namespace Go.Proofs.YtoikjgcggmemaaaGreatDoor
open Go.RowKit Go.Deep
set_option linter.unusedVariables false

/-- the number that a head says, and how many bytes the head has -/
def headOf (bs : List UInt8) : Option (Nat × Nat) :=
  match unframeF bs with
  | none => none
  | some x => if doneE (numS x.1 0 9007199254740992).2.1 (numS x.1 0 9007199254740992).2.2 = 0 ∧ 1 ≤ (numS x.1 0 9007199254740992).1 then some ((numS x.1 0 9007199254740992).1, x.2) else none
section
variable {W w : World} {u : Value} {bs : List UInt8}
/-- what head answers -/
def HdPost (w : World) (bs : List UInt8) (e : Ending) (w' : World) : Prop :=
  B w w' ∧ match headOf bs with
  | none => ∃ f n : Int, e = .returned (.tuple #[.int .i64 f, .int .i64 n, .bool false])
  | some r => e = .returned (.tuple #[.int .i64 (r.1 : Int), .int .i64 (r.2 : Int), .bool true])
set_option maxRecDepth 20000 in
set_option maxHeartbeats 4000000 in
theorem head_c (hu : Bs w u bs) : Calls Tryz.prog 61 #[u] w (HdPost w bs) := by
  have hul := hu.2
  cases hr : unframeF bs with
  | none =>
    have HH := Lib.hid (show headOf bs = none by unfold headOf; rw [hr])
    have HU := Lib.hid (unframe_n hu hr)
    clear hu hr
    go_enter Tryz.func61, Tryz.ntmps61
    go_wp2_with (first
      | (go_at_call 74; (with_reducible refine HU.out.mono ?_); rintro e w1 ⟨rfl, hb⟩; have HB := Lib.hid hb; clear hb))
    go_ret3
    unfold HdPost
    rw [HH.out]
    exact ⟨HB.out, _, _, rfl⟩
  | some x =>
    have HU := Lib.hid (unframe_s hu hr)
    have hx := (unframe_le hr).2.2
    have hxl : x.1.length ≤ big := by omega
    have HX := Lib.hid hxl
    obtain ⟨⟨f, b1, e1⟩, hn⟩ : ∃ q, numS x.1 0 9007199254740992 = q := ⟨_, rfl⟩
    have hf : f ≤ 9007199254740992 := by have := numS_le x.1 0 9007199254740992; rw [hn] at this; exact this
    have HRD := Lib.hid (fun (w' : World) (v : Value) (Y : List Asn) (h : St w w' (aBy v x.1 :: Y)) => h.read77 (h.byBs HX.out))
    have HNM := Lib.hid (fun (w' : World) (p : Nat) (Y : List Asn) (h : St w w' (aRd p x.1 0 :: Y)) => (show Calls Tryz.prog 76 #[.pointer (some ⟨p, 0, none⟩), .int .u64 9007199254740992] w' (NumPost w p Y (f, b1, e1)) from by have := h.num85 9007199254740992; rw [hn] at this; exact this))
    have hw : IntKind.i64.wrap (f : Int) = (f : Int) := by simp [IntKind.wrap, IntKind.signed, IntKind.bits]; omega
    have hw2 : wrap64 (f : Int) = (f : Int) := by unfold wrap64; omega
    have HH : headOf bs = if doneE b1 e1 = 0 ∧ 1 ≤ f then some (f, x.2) else none := by unfold headOf; rw [hr]; simp only; rw [hn]
    obtain ⟨z, hz⟩ : ∃ z, doneE b1 e1 = z := ⟨_, rfl⟩
    have HZ := Lib.hid hz
    rw [hz] at HH
    have HH := Lib.hid HH
    have hc : z = 0 ∧ 1 ≤ f ∨ z = 0 ∧ f = 0 ∨ (z == 0) = false := by
      by_cases h : z = 0
      · rcases Nat.eq_zero_or_pos f with h2 | h2
        · exact .inr (.inl ⟨h, h2⟩)
        · exact .inl ⟨h, h2⟩
      · exact .inr (.inr (by simpa using h))
    clear hu hr hx hxl hn hz hul
    rcases hc with ⟨rfl, h1⟩ | ⟨rfl, rfl⟩ | hc
    · have HF := Lib.hid (show (0:Int) = 0 ∧ 1 ≤ f from ⟨rfl, h1⟩)
      go_enter Tryz.func61, Tryz.ntmps61
      go_wp2_with (first
        | (go_at_call 74; (with_reducible refine HU.out.mono ?_); rintro e w1 ⟨v, rfl, hS⟩; have H1 := Lib.hid hS; clear hS)
        | (go_at_call 75; (with_reducible refine (HRD.out _ _ _ H1.out).mono ?_); rintro e w2 ⟨p, rfl, hS⟩; have H2 := Lib.hid hS; clear hS)
        | (go_at_call 76; (with_reducible refine (HNM.out _ _ _ H2.out).mono ?_); rintro e w3 ⟨rfl, hS⟩; have H3 := Lib.hid hS; clear hS)
        | (go_at_call 77; (with_reducible refine (H3.out.done82).mono ?_); rintro e w4 ⟨rfl, rfl⟩; rw [HZ.out]))
      go_ret3
      unfold HdPost
      rw [HH.out]
      rw [if_pos HF.out]
      have h2 := HF.out.2
      exact ⟨H3.out.b, by simp; omega⟩
    · go_enter Tryz.func61, Tryz.ntmps61
      go_wp2_with (first
        | (go_at_call 74; (with_reducible refine HU.out.mono ?_); rintro e w1 ⟨v, rfl, hS⟩; have H1 := Lib.hid hS; clear hS)
        | (go_at_call 75; (with_reducible refine (HRD.out _ _ _ H1.out).mono ?_); rintro e w2 ⟨p, rfl, hS⟩; have H2 := Lib.hid hS; clear hS)
        | (go_at_call 76; (with_reducible refine (HNM.out _ _ _ H2.out).mono ?_); rintro e w3 ⟨rfl, hS⟩; have H3 := Lib.hid hS; clear hS)
        | (go_at_call 77; (with_reducible refine (H3.out.done82).mono ?_); rintro e w4 ⟨rfl, rfl⟩; rw [HZ.out]))
      go_ret3
      unfold HdPost
      rw [HH.out]
      rw [if_neg (by omega)]
      exact ⟨H3.out.b, ((0 : Nat) : Int), (x.2 : Int), by simp⟩
    · go_enter Tryz.func61, Tryz.ntmps61
      go_wp2_with (first
        | (go_at_call 74; (with_reducible refine HU.out.mono ?_); rintro e w1 ⟨v, rfl, hS⟩; have H1 := Lib.hid hS; clear hS)
        | (go_at_call 75; (with_reducible refine (HRD.out _ _ _ H1.out).mono ?_); rintro e w2 ⟨p, rfl, hS⟩; have H2 := Lib.hid hS; clear hS)
        | (go_at_call 76; (with_reducible refine (HNM.out _ _ _ H2.out).mono ?_); rintro e w3 ⟨rfl, hS⟩; have H3 := Lib.hid hS; clear hS)
        | (go_at_call 77; (with_reducible refine (H3.out.done82).mono ?_); rintro e w4 ⟨rfl, rfl⟩; rw [HZ.out]))
      go_ret3
      unfold HdPost
      rw [HH.out]
      rw [if_neg (fun h => by simp [h.1] at hc)]
      exact ⟨H3.out.b, (f : Int), (x.2 : Int), by simp⟩
end
end Go.Proofs.YtoikjgcggmemaaaGreatDoor
