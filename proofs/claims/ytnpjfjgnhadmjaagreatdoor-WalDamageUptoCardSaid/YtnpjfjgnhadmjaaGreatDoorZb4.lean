/- Lemmas and contracts, part 4. -/
import Derived.Test.YtnpjfjgnhadmjaaGreatDoorZb3
import Derived.RangeFuncNested
import Derived.RangeFuncBound
import Derived.RangeFuncCalls
import Derived.RangeFuncLeaves
import Derived.OwnWalkIn
import Derived.TacticsInMore
import Derived.LoopNIn
import Derived.LoopIn
import Derived.Laws.ResultCell
import Derived.Laws.CopyOwn
import Derived.Laws.MakeOwn
import Derived.Test.YtnpjfjgnhadmjaaGreatDoorCards
import Derived.Test.YtnpjfjgnhadmjaaGreatDoorTie
import Derived.Deep.DeepHandedRow
import Derived.Deep.DeepWitnessRowRef
import Derived.Lib.LaidIn
/- A range over a function whose iterator keeps its state in a cell of its own: the caller's law, for a body that always goes on. No program here. -/
namespace Go.Proofs.YtnpjfjgnhadmjaaGreatDoor
open Go.RowKit Go.Deep
set_option linter.unusedVariables false

/-- how a body goes on -/
def goesOn (J : World → Prop) (W : World) : Exit → Act → World → Prop
  | .normal, _, W' => KeepsOthers W W' ∧ J W'
  | _, _, _ => False
/-- what may be done to the loop's own records -/
def Bears (B : Nat) (J : World → Prop) : Prop := (∀ W o, J W → J (W.alloc o)) ∧ ∀ W l o o', J W → B ≤ l → W.heap[l]? = some o → o.isCells = false → J (W.putObj l o')
theorem range_go {α : Type} {F : Fence} {n : Nat} {P : Program} {g : Operand} {ps : Array Tmp} {assign body : Code} {Q : Exit → Act → World → Prop} {a : Act} {w : World}
    (hro : F.round = none) (h1 : 1 ≤ n) {gf : Nat} {lb : Array Value} (hg : a.eval g = .func (.func gf) #[] lb) (hFg : F.fn gf) (eg : ∀ args w, (callFunc gf args).run P w = .ok (.enter gf args) w)
    {encs : α → Array Value} {S : List α → Prop} (hps : ∀ x, (encs x).size = ps.size) (J J2 : List α → World → Prop) (JY : List α → α → World → Prop) (hJ : ∀ s, Bears w.heap.size (J s)) (hJY : ∀ s x, Bears w.heap.size (JY s x)) (hJ2 : ∀ s, Bears w.heap.size (J2 s)) (h0 : J [] w) (a₁ : α → Act)
    (hassign : ∀ (l : Nat) (x : α) (W : World) (K : Act → World → Prop), K (a₁ x) W →
      assign.wpIn (F.inRound l) (n - 1 - 1) P (Exit.then K (fun _ _ _ => False)) { tmps := (ps.zip (encs x)).foldl (fun t (p, v) => t.setIfInBounds p v) a.tmps, defers := [] } W)
    (hbody : ∀ (l : Nat) (pre : List α) (x : α) (W : World), JY pre x W → body.wpIn (F.inRound l) (n - 1 - 1) P (goesOn (J2 (pre ++ [x])) W) (a₁ x) W)
    (hit : ∀ (l : Nat) (W1 : World) (T : World → Prop), (∀ A B, T A → KeepsOthers A B → T B) → T W1 → J [] W1 →
      (∀ pre x W, JY pre x W → T W → YieldAt F (n - 1 - 1) P l (encs x) W fun e W' => e = .returned (.bool true) ∧ J2 (pre ++ [x]) W' ∧ T W') →
      CallsIn F (n - 1) P gf (#[.func (.yield l) #[] #[]] ++ lb) W1 fun e W' => (∃ v, e = .returned v) ∧ ∃ xs, S xs ∧ J xs W' ∧ T W')
    (hdone : ∀ (D : Nat) (xs : List α) (W : World), w.heap.size ≤ D → S xs → J xs W → W.heap[D]? = some (.deferred (some [])) → Q .normal { a with defers := { target := .collected D, args := #[] } :: a.defers } W) :
    (Code.rangeFunc g ps assign body).wpIn F n P Q a w := by
  refine wpIn_rangeFunc fun fn hfn => ?_
  rw [hro]
  let D := w.heap.size
  let l := w.heap.size + 1
  let lp : LoopState → Option Code → Obj := fun st pe => .loop { state := st, pending := pe, fn := fn, tmps := a.tmps, params := ps, assign := assign, body := body, defers := w.heap.size }
  let W0 := (w.alloc (.deferred (some []))).alloc (lp .ready none)
  have eL : W0.heap[l]? = some (lp .ready none) := by
    have := World.alloc_heap_new (w.alloc (.deferred (some []))) (lp .ready none)
    rwa [World.size_alloc] at this
  have eD : W0.heap[D]? = some (.deferred (some [])) := (Below.heap_alloc _ _ _ (by simp [D])).trans (World.alloc_heap_new w _)
  let T : World → Prop := fun W => W.heap[l]? = some (lp .ready none) ∧ W.heap[D]? = some (.deferred (some []))
  have hT : ∀ A B, T A → KeepsOthers A B → T B := fun A B h k => ⟨k.same _ _ h.1 rfl, k.same _ _ h.2 rfl⟩
  have hJ0 : J [] W0 := (hJ []).1 _ _ ((hJ []).1 _ _ h0)
  refine ⟨l, [{ target := .collected w.heap.size, args := #[] }], W0, { target := .fn (.func gf) lb, args := #[.func (.yield l) #[] #[]] }, W0, gf, #[.func (.yield l) #[] #[]] ++ lb, W0, ?_, ?_, ?_, ?_, fun _ => h1, ?_⟩
  · exact run_enterLoop_outer _ _ _ _ _
  · simp only [resolve, hg]
    simp [go_sem]
  · intro f' hf'
    simp [Target.leads] at hf'
    subst hf'
    exact hFg
  · simp [invoke, go_sem, eg]
  · refine (hit l W0 T hT ⟨eL, eD⟩ hJ0 ?_).mono ?_
    · rintro pre x W hj ⟨hl, hd⟩
      have hlt : l < W.heap.size := (Array.getElem?_eq_some_iff.1 hl).1
      refine ⟨fn, _, assign, body, run_yield (P := P) (args := encs x) hl (hps x), roundIn_of_wpIn hfn (hassign _ x W _ ⟨_, run_beginRound hl rfl, ?_⟩)⟩
      have hl2 : (W.putObj l (lp .busy none)).heap[l]? = some (lp .busy none) := World.putObj_heap_same hlt
      have hd2 : (W.putObj l (lp .busy none)).heap[D]? = some (.deferred (some [])) := (World.putObj_heap_other (by simp [D, l])).trans hd
      refine wpIn_mono (hbody _ pre x _ ((hJY pre x).2 _ _ _ _ hj (by simp [l]) hl rfl)) ?_
      rintro e a3 W3 hp
      cases e with
      | normal =>
        obtain ⟨hk, hj2⟩ := hp
        have hl3 := hk.same _ _ hl2 rfl
        exact ⟨_, _, run_endRound (P := P) none hl3, rfl, (hJ2 _).2 _ _ _ _ hj2 (by simp [l]) hl3 rfl, World.putObj_heap_same (Array.getElem?_eq_some_iff.1 hl3).1, (World.putObj_heap_other (by simp [D, l])).trans (hk.same _ _ hd2 rfl)⟩
      | ret => exact hp.elim
      | exit id => exact hp.elim
      | goto t => exact hp.elim
      | panic ch => exact hp.elim
      | outgrown => exact hp.elim
    · rintro e W2 ⟨⟨v, rfl⟩, xs, hS, hj, hl, hd⟩
      exact ⟨none, _, run_endLoop (P := P) hl (by simp), hdone _ xs _ (Nat.le_refl _) hS ((hJ xs).2 _ _ _ _ hj (by simp [l]) hl rfl) ((World.putObj_heap_other (by simp [l])).trans hd)⟩
end Go.Proofs.YtnpjfjgnhadmjaaGreatDoor

/- The frames with which bytes begin, plain; objects made of cells alone. -/
namespace Go.Proofs.YtnpjfjgnhadmjaaGreatDoor
open Go.RowKit Go.Deep
set_option linter.unusedVariables false

theorem unframe_le {bs : List UInt8} {r : List UInt8 × Nat} (h : unframeF bs = some r) : r.2 ≤ bs.length ∧ 4 ≤ r.2 ∧ r.1.length ≤ bs.length := by
  unfold unframeF at h
  obtain ⟨⟨x, b1, e1⟩, hb⟩ : ∃ r, bytesS bs 0 524288 = r := ⟨_, rfl⟩
  rw [hb] at h
  obtain ⟨⟨s, b2, e2⟩, ht⟩ : ∃ t, takeS b1 e1 4 = t := ⟨_, rfl⟩
  simp only at h
  rw [ht] at h
  simp only at h
  split at h
  · cases h
  · rename_i he
    obtain rfl : e2 = 0 := by omega
    obtain ⟨rfl, h4, rfl, h5⟩ := takeS4 ht
    have := bytesS_read hb
    have hl : x.length + b1.length ≤ bs.length := by rw [this]; simp
    split at h
    · cases h
      exact ⟨by simp; omega, by simp, by simp; omega⟩
    · cases h
theorem unframe_frame {b x : List UInt8} (h : b.length ≤ 524288) : unframeF (frameF b ++ x) = some (b, (frameF b).length) := by
  have e1 : frameF b ++ x = enc b.length ++ b ++ (le4 (sumF (bodyF b)) ++ x) := by simp [frameF, bodyF]
  have e2 : bytesS (frameF b ++ x) 0 524288 = (b, le4 (sumF (bodyF b)) ++ x, 0) := by rw [e1]; exact bytesS_put (by omega) (by omega)
  have e3 : takeS (le4 (sumF (bodyF b)) ++ x) 0 4 = (le4 (sumF (bodyF b)), x, 0) := takeS_put (x := le4 (sumF (bodyF b)))
  have e4 : (frameF b ++ x).length - (le4 (sumF (bodyF b)) ++ x).length = (bodyF b).length := by simp [frameF, le4]
  unfold unframeF
  rw [e2]
  simp only
  rw [e3, if_neg (by simp), e4]
  have e5 : (frameF b ++ x).take (bodyF b).length = bodyF b := by simp [frameF]
  rw [e5, if_pos rfl]
  simp [frameF, le4]
/-- the records of the whole frames with which bytes begin, and their frames' sizes -/
def framesF (bs : List UInt8) : List (List UInt8 × Nat) :=
  match h : unframeF bs with
  | none => []
  | some r => r :: framesF (bs.drop r.2)
termination_by bs.length
decreasing_by
  have := unframe_le h
  simp; omega
theorem framesF_none {bs : List UInt8} (h : unframeF bs = none) : framesF bs = [] := by
  rw [framesF]; split
  · rfl
  · rename_i h2; rw [h] at h2; cases h2
theorem framesF_some {bs : List UInt8} {r : List UInt8 × Nat} (h : unframeF bs = some r) : framesF bs = r :: framesF (bs.drop r.2) := by
  rw [framesF]; split
  · rename_i h2; rw [h] at h2; cases h2
  · rename_i r2 h2; rw [h] at h2; cases h2; rfl

/-- what the object says it says of blocks of cells alone -/
def Asn.Cel (A : Asn) : Prop := ∀ own w, A.at_ own w → A.at_ (fun x => own x ∧ ∀ o, w.heap[x]? = some o → o.isCells = true) w
theorem row_cells {w : World} {e : TypeId} {sz n : Nat} {v : Value} {xs : List Value} (h : w.ownsRow 0 e sz v n xs) {g : Nat} (hg : v.ownBlock = some g) : ∀ o, w.heap[g]? = some o → o.isCells = true := by
  intro o ho
  rcases h.2 with ⟨rfl, _⟩ | ⟨g', cap, cur, rfl, _, hh, _⟩
  · simp [Value.ownBlock] at hg
  · have : g' = g := by simpa [Value.ownBlock] using hg
    subst this
    rw [hh] at ho
    cases ho
    rfl
theorem aBlk.cel (g : Nat) (t : TypeId) (cs : Array Value) : (aBlk g t cs).Cel := by
  rintro own w ⟨h1, h2⟩
  refine ⟨⟨h1, fun o ho => ?_⟩, h2⟩
  rw [h2] at ho
  cases ho
  rfl
theorem aRow.cel (e : TypeId) (sz : Nat) (v : Value) (n : Nat) (xs : List Value) : (aRow e sz v n xs).Cel :=
  fun own w ⟨h1, h2⟩ => ⟨h1, fun g hg => ⟨h2 g hg, row_cells h1 hg⟩⟩
theorem aBy.cel (v : Value) (b : List UInt8) : (aBy v b).Cel := aRow.cel _ _ _ _ _
theorem aPl.cel (v : Value) (M : List (List UInt8)) : (aPl v M).Cel :=
  fun own w ⟨vs, ⟨h1, h2⟩, h3, h4⟩ => ⟨vs, ⟨h1, fun g hg => ⟨h2 g hg, row_cells h1 hg⟩⟩, h3, fun i u b hu hb => let ⟨r1, r2, r3⟩ := h4 i u b hu hb; ⟨r1, r2, fun g hg => ⟨r3 g hg, row_cells r1 hg⟩⟩⟩
theorem Ext.putObj (w : World) (l : Nat) (o : Obj) : Ext (fun b => b = l) w (w.putObj l o) :=
  ⟨rfl, rfl, rfl, by simp, fun b hb hn => World.putObj_heap_other hn⟩
theorem Sep.putObj {W : World} {l : Nat} {o o' : Obj} (ho : W.heap[l]? = some o) (hno : o.isCells = false) : ∀ {L : List Asn} {U : Nat → Prop}, (∀ A ∈ L, A.Cel) → Sep W U L → Sep (W.putObj l o') U L
  | [], _, _, _ => trivial
  | A :: L, U, hc, ⟨own, h1, h2, h3⟩ => by
    refine ⟨fun x => own x ∧ ∀ o, W.heap[x]? = some o → o.isCells = true, fun b hb => ⟨(h1 b hb.1).1, by simp; exact (h1 b hb.1).2⟩, ?_, ?_⟩
    · refine A.ext (hc A (by simp) own W h2) (Ext.putObj W l o') ?_
      rintro b ⟨hb, hk⟩ rfl
      rw [hk _ ho] at hno
      cases hno
    · exact (Sep.putObj ho hno (fun A hA => hc A (by simp [hA])) h3).mono (fun b _ hb => ⟨hb.1, fun e => hb.2 e.1⟩)
theorem St.putObj {w0 W : World} {l : Nat} {o : Obj} (o' : Obj) {L : List Asn} (h : St w0 W L) (hc : ∀ A ∈ L, A.Cel) (hl : w0.heap.size ≤ l) (ho : W.heap[l]? = some o) (hno : o.isCells = false) : St w0 (W.putObj l o') L :=
  ⟨((Ext.of_B (own := fun b => b = l) h.1).trans_ (Ext.putObj W l o')).to_B (fun b hb e => by omega), Sep.putObj ho hno hc h.2⟩
theorem KeepsOthers.of_B {w w' : World} (h : B w w') : KeepsOthers w w' :=
  ⟨h.size, fun k o hk _ => (h.block k (Array.getElem?_eq_some_iff.1 hk).1).trans hk⟩
/-- 'append(l, x)' beside what is no cells -/
theorem St.plAppendK {W w : World} {L : List Asn} {x v : Value} {b : List UInt8} {M : List (List UInt8)} {ty : TypeId} (h : St W w (aPl v M :: aBy x b :: L)) (hb : b.length ≤ big) (hl : M.length + 1 ≤ 1099511627776) :
    ∃ A c w', (Builtin.append_ #[63, 63] ty #[v, .slice (some ⟨w.heap.size, 0, none⟩) 1 1]).run Tryz.prog (w.alloc (.cells #[x] 22)) = .ok (.slice A (M.length + 1) c) w' ∧ St W w' (aPl (.slice A (M.length + 1) c) (M ++ [b]) :: L) ∧ KeepsOthers w w' := by
  obtain ⟨own, ⟨o1, o2, k1, k2, k3, ⟨vs, ⟨h1, h2⟩, h3⟩, ⟨h4, h5⟩⟩, ho, hback⟩ := h.merge.focus
  obtain ⟨Ax, cx, rfl⟩ := own_slice h4
  have hBa := B.alloc' w (.cells #[.slice Ax b.length cx] 22)
  have hq1 := row_later h1 hBa
  obtain ⟨v', w', hrun, r4, x4, y4⟩ := append_Rd (P := Tryz.prog) (t := 63) (ty := ty) Tryz.underlying63 info47 rfl Nat.zero_lt_one hq1 (Rd.one w (.slice Ax b.length cx) 22) (by simp [Value.oneCell']) (by unfold maxLen; omega) (by omega) (Nat.zero_le _)
  obtain ⟨A, c, rfl⟩ := own_slice r4
  have hgx : Ext (fun g => some g = v.ownBlock) (w.alloc (.cells #[.slice Ax b.length cx] 22)) w' := (Ext.refl _ _).grown x4 (fun g e _ => e.symm)
  refine ⟨A, c, w', hrun, ?_, (KeepsOthers.alloc _ _).trans (KeepsOthers.of_grownBy x4 (fun j o e ho => row_cells hq1 e o ho))⟩
  have f7 := (h3.later hBa).ext hgx (fun g cs _ hB' e => row_ne hq1 hB' (by decide) e.symm)
  have q2 := row_later h4 hBa
  have q3 := row_ext q2 hgx (fun g hg e => row_row hq1 q2 (by decide) e.symm hg)
  have f8 := (f7.mono (own' := fun x => own x ∨ w.heap.size ≤ x) (fun g hg => .inl (k1 g hg))).snoc q3 hb (fun g hg => .inl (k2 g (h5 g hg)))
  refine hback w' (aPl (.slice A (M.length + 1) c) (M ++ [b])) ((Ext.of_B hBa).grown x4 (fun g e _ => k1 g (h2 g e))) ⟨_, ⟨by rw [List.length_append]; exact r4, fun g hg => ?_⟩, f8⟩
  rcases y4 with e | e
  · exact .inl (k1 g (h2 g (by rw [← e, hg])))
  · right; rw [e] at hg; injection hg with hg; simp at hg; omega
end Go.Proofs.YtnpjfjgnhadmjaaGreatDoor

/- The walk of the iterator frames$1: the frames with which bytes begin, one after the other; its variable in a cell of its own. -/
namespace Go.Proofs.YtnpjfjgnhadmjaaGreatDoor
open Go.RowKit Go.Deep
set_option linter.unusedVariables false
attribute [local go_sem] Oper.semAt_some

theorem St.onto {w0 w w' : World} {A : Asn} {L : List Asn} (h : St w0 w L) (k : St w w' [A]) : St w0 w' (A :: L) := by
  obtain ⟨hb, own, h1, h2, _⟩ := k
  exact h.add hb h2 (fun x e => (h1 x e).1)
theorem unframe_n {w : World} {u : Value} {bs : List UInt8} (hb : Bs w u bs) (hu : unframeF bs = none) : Calls Tryz.prog 10 #[u] w fun e w' => e = .returned (.tuple #[.slice none 0 0, .int .i64 0, .bool false]) ∧ B w w' :=
  (unframe_c hb).mono fun e w' h => by unfold UnPost at h; rw [hu] at h; exact h
theorem unframe_s {w : World} {u : Value} {bs : List UInt8} {r : List UInt8 × Nat} (hb : Bs w u bs) (hu : unframeF bs = some r) : Calls Tryz.prog 10 #[u] w fun e w' => ∃ v, e = .returned (.tuple #[v, .int .i64 (r.2 : Int), .bool true]) ∧ St w w' [aBy v r.1] :=
  (unframe_c hb).mono fun e w' h => by unfold UnPost at h; rw [hu] at h; exact h
/-- a frame: the record as a value, the record, the frame's size -/
abbrev Fx := Value × List UInt8 × Nat
/-- what is left behind some frames -/
def restF (b0 : List UInt8) (pre : List Fx) : List UInt8 := b0.drop (pre.map (·.2.2)).sum
theorem restF_snoc (b0 : List UInt8) (pre : List Fx) (x : Fx) : (restF b0 pre).drop x.2.2 = restF b0 (pre ++ [x]) := by
  simp [restF, List.drop_drop]
section
variable (w0 : World) (box : Nat) (b0 : List UInt8) (Y : List Fx → List Asn → Prop)
/-- between two rounds -/
def FrJ (pre : List Fx) (W : World) : Prop := ∃ rest A c L, rest = restF b0 pre ∧ framesF b0 = pre.map (·.2) ++ framesF rest ∧ Bs w0 (.slice A rest.length c) rest ∧ Y pre L ∧ St w0 W (aBlk box 22 #[.slice A rest.length c] :: L)
/-- a round begins -/
def FrY (pre : List Fx) (x : Fx) (W : World) : Prop := ∃ rest A c L, rest = restF b0 pre ∧ framesF b0 = pre.map (·.2) ++ framesF rest ∧ unframeF rest = some x.2 ∧ Bs w0 (.slice A rest.length c) rest ∧ Y pre L ∧ St w0 W (aBy x.1 x.2.1 :: aBlk box 22 #[.slice A rest.length c] :: L)
/-- a round is over -/
def Fr2 (pre : List Fx) (W : World) : Prop := ∃ pre' x rest A c L, pre = pre' ++ [x] ∧ rest = restF b0 pre' ∧ framesF b0 = pre'.map (·.2) ++ framesF rest ∧ unframeF rest = some x.2 ∧ Bs w0 (.slice A rest.length c) rest ∧ Y pre L ∧ St w0 W (aBlk box 22 #[.slice A rest.length c] :: L)
end
/-- how many bytes are still to come -/
def leftOf (box : Nat) (W : World) : Nat := match W.cell? ⟨box, 0, none⟩ with | some (.slice _ n _) => n | _ => 0
section
variable {w0 : World} {box : Nat} {b0 : List UInt8} {Y : List Fx → List Asn → Prop}
set_option maxRecDepth 100000 in
set_option maxHeartbeats 2000000 in
theorem frames1_in (n : Nat) (hn : 1 ≤ n) (l : Nat) (T : World → Prop) (hT : ∀ A B, T A → KeepsOthers A B → T B) (W1 : World) (hT1 : T W1) (h0 : FrJ w0 box b0 Y [] W1)
    (hY : ∀ pre x W, FrY w0 box b0 Y pre x W → T W → YieldAt Fence.wide (n - 1) Tryz.prog l #[x.1, .int .i64 (x.2.2 : Int)] W fun e W' => e = .returned (.bool true) ∧ Fr2 w0 box b0 Y (pre ++ [x]) W' ∧ T W') :
    CallsIn Fence.wide n Tryz.prog 129 #[.func (.yield l) #[] #[], .pointer (some ⟨box, 0, none⟩)] W1 fun e W' => (∃ v, e = .returned v) ∧ ∃ xs, framesF b0 = xs.map (·.2) ∧ FrJ w0 box b0 Y xs W' ∧ T W' := by
  refine callsIn_of_wp Tryz.func129 rfl trivial ?_ rfl
  simp only [Tryz.ntmps129, List.size_toArray, List.length_cons, List.length_nil, Nat.reduceAdd, Nat.reduceSub, Array.replicate_succ, Array.replicate_zero, List.push_toArray, List.append_toArray, List.nil_append, List.cons_append]
  gi_wp2
  gi_loopw [3] (fun _ wr => T wr ∧ ∃ pre, FrJ w0 box b0 Y pre wr) (fun p wr => leftOf box wr)
  case atStart => exact ⟨hT1, [], h0⟩
  case round =>
    obtain ⟨hTr, pre, rest, A, c, L, hre, hfr, hbs, hL, hS⟩ := hrel
    have HRE := Lib.hid hre
    clear hre
    have k0 := (aBlk.get hS).cell 0
    simp at k0
    have HS := Lib.hid hS
    cases hu : unframeF rest with
    | none =>
      have HU := Lib.hid (unframe_n (hbs.later hS.b) hu)
      gi_wp2_with (first
        | ((try refine ⟨trivial, ?_⟩); gi_at_call 10; (with_reducible refine (callsIn_wide.2 HU.out).mono ?_); rintro e w1 ⟨rfl, hb⟩; have H1 := Lib.hid (HS.out.later hb); have hT1 := hT _ _ hTr (KeepsOthers.of_B hb); clear hb))
      refine ⟨fun _ h => (by cases h), ?_⟩
      gi_wp2
      refine bodyPost_ret (results_none rfl _ _ _) rfl ?_
      refine ⟨⟨_, rfl⟩, pre, ?_, ⟨rest, A, c, L, HRE.out, hfr, hbs, hL, H1.out⟩, hT1⟩
      rw [hfr, framesF_none hu, List.append_nil]
    | some r =>
      have HU := Lib.hid (unframe_s (hbs.later hS.b) hu)
      gi_wp2_with (first
        | ((try refine ⟨trivial, ?_⟩); gi_at_call 10; (with_reducible refine (callsIn_wide.2 HU.out).mono ?_); rintro e w1 ⟨v, rfl, hk⟩; have H1 := Lib.hid (HS.out.onto hk); have hT1 := hT _ _ hTr (KeepsOthers.of_B hk.b); have hyy := hY pre (v, r) w1 ⟨rest, A, c, L, HRE.out, hfr, hu, hbs, hL, H1.out⟩ hT1; clear hk; obtain ⟨fn, tmps, assign, body, hy, hR⟩ := hyy; dsimp only at hy))
      refine hR.mono ?_
      rintro e W3 ⟨rfl, ⟨pre', x', rest', A', c', L', hpp, hre', hfr', hu', hbs', hL', hS'⟩, hT3⟩
      obtain ⟨rfl, rfl⟩ : pre = pre' ∧ (v, r) = x' := by
        have := List.append_inj' hpp (by simp)
        exact ⟨this.1, by simpa using this.2⟩
      obtain rfl : rest' = rest := hre'.trans HRE.out.symm
      have HRE' := Lib.hid hre'
      clear hre'
      obtain ⟨hr1, hr2, hr3⟩ := unframe_le hu'
      obtain ⟨A2, c2, s1, s2, hb2, _⟩ := hbs'.cut r.2 hr1
      have k3 := (aBlk.get hS').cell 0
      have f3 := (aBlk.get hS').frozen 0
      simp at k3
      have HS3 := Lib.hid hS'
      gi_wp2
      go_roundw
      case rel =>
        refine ⟨hT _ _ hT3 (KeepsOthers.setCell _ _ _), pre ++ [(v, r)], rest'.drop r.2, A2, c2, L', ?_, ?_, ?_, hL', ?_⟩
        · rw [HRE'.out]; exact restF_snoc b0 pre (v, r)
        · rw [hfr', framesF_some hu']; simp
        · rw [List.length_drop]; exact hb2
        · have := aBlk.set HS3.out 0 (.slice A2 (rest'.length - r.2) c2)
          rw [List.length_drop]
          exact this
      case measure =>
        unfold leftOf
        rw [(by have := (aBlk.get (aBlk.set HS3.out 0 (.slice A2 (rest'.length - r.2) c2))).cell 0; simpa using this : (W3.setCell ⟨box, 0, none⟩ (.slice A2 (rest'.length - r.2) c2)).cell? ⟨box, 0, none⟩ = some (.slice A2 (rest'.length - r.2) c2)), k0]
        simp; omega
end
end Go.Proofs.YtnpjfjgnhadmjaaGreatDoor

/- A segment's head. -/
namespace Go.Proofs.YtnpjfjgnhadmjaaGreatDoor
open Go.RowKit Go.Deep
set_option linter.unusedVariables false

/-- the number that a head says, and how many bytes the head has -/
def headOf (bs : List UInt8) : Option (Nat × Nat) :=
  match unframeF bs with
  | none => none
  | some x => if doneE (numS x.1 0 9007199254740992).2.1 (numS x.1 0 9007199254740992).2.2 = 0 ∧ 1 ≤ (numS x.1 0 9007199254740992).1 then some ((numS x.1 0 9007199254740992).1, x.2) else none
section
variable {W w : World} {u : Value} {bs : List UInt8}
/-- what head answers -/
def HdPost (w : World) (bs : List UInt8) (e : Ending) (w' : World) : Prop :=
  B w w' ∧ match headOf bs with
  | none => ∃ f n : Int, e = .returned (.tuple #[.int .i64 f, .int .i64 n, .bool false])
  | some r => e = .returned (.tuple #[.int .i64 (r.1 : Int), .int .i64 (r.2 : Int), .bool true])
set_option maxRecDepth 20000 in
set_option maxHeartbeats 4000000 in
theorem head_c (hu : Bs w u bs) : Calls Tryz.prog 112 #[u] w (HdPost w bs) := by
  have hul := hu.2
  cases hr : unframeF bs with
  | none =>
    have HH := Lib.hid (show headOf bs = none by unfold headOf; rw [hr])
    have HU := Lib.hid (unframe_n hu hr)
    clear hu hr
    go_enter Tryz.func112, Tryz.ntmps112
    go_wp2_with (first
      | (go_at_call 10; (with_reducible refine HU.out.mono ?_); rintro e w1 ⟨rfl, hb⟩; have HB := Lib.hid hb; clear hb))
    go_ret3
    unfold HdPost
    rw [HH.out]
    exact ⟨HB.out, _, _, rfl⟩
  | some x =>
    have HU := Lib.hid (unframe_s hu hr)
    have hx := (unframe_le hr).2.2
    have hxl : x.1.length ≤ big := by omega
    have HX := Lib.hid hxl
    obtain ⟨⟨f, b1, e1⟩, hn⟩ : ∃ q, numS x.1 0 9007199254740992 = q := ⟨_, rfl⟩
    have hf : f ≤ 9007199254740992 := by have := numS_le x.1 0 9007199254740992; rw [hn] at this; exact this
    have HRD := Lib.hid (fun (w' : World) (v : Value) (Y : List Asn) (h : St w w' (aBy v x.1 :: Y)) => h.read77 (h.byBs HX.out))
    have HNM := Lib.hid (fun (w' : World) (p : Nat) (Y : List Asn) (h : St w w' (aRd p x.1 0 :: Y)) => (show Calls Tryz.prog 80 #[.pointer (some ⟨p, 0, none⟩), .int .u64 9007199254740992] w' (NumPost w p Y (f, b1, e1)) from by have := h.num85 9007199254740992; rw [hn] at this; exact this))
    have hw : IntKind.i64.wrap (f : Int) = (f : Int) := by simp [IntKind.wrap, IntKind.signed, IntKind.bits]; omega
    have hw2 : wrap64 (f : Int) = (f : Int) := by unfold wrap64; omega
    have HH : headOf bs = if doneE b1 e1 = 0 ∧ 1 ≤ f then some (f, x.2) else none := by unfold headOf; rw [hr]; simp only; rw [hn]
    obtain ⟨z, hz⟩ : ∃ z, doneE b1 e1 = z := ⟨_, rfl⟩
    have HZ := Lib.hid hz
    rw [hz] at HH
    have HH := Lib.hid HH
    have hc : z = 0 ∧ 1 ≤ f ∨ z = 0 ∧ f = 0 ∨ (z == 0) = false := by
      by_cases h : z = 0
      · rcases Nat.eq_zero_or_pos f with h2 | h2
        · exact .inr (.inl ⟨h, h2⟩)
        · exact .inl ⟨h, h2⟩
      · exact .inr (.inr (by simpa using h))
    clear hu hr hx hxl hn hz hul
    rcases hc with ⟨rfl, h1⟩ | ⟨rfl, rfl⟩ | hc
    · have HF := Lib.hid (show (0:Int) = 0 ∧ 1 ≤ f from ⟨rfl, h1⟩)
      go_enter Tryz.func112, Tryz.ntmps112
      go_wp2_with (first
        | (go_at_call 10; (with_reducible refine HU.out.mono ?_); rintro e w1 ⟨v, rfl, hS⟩; have H1 := Lib.hid hS; clear hS)
        | (go_at_call 42; (with_reducible refine (HRD.out _ _ _ H1.out).mono ?_); rintro e w2 ⟨p, rfl, hS⟩; have H2 := Lib.hid hS; clear hS)
        | (go_at_call 80; (with_reducible refine (HNM.out _ _ _ H2.out).mono ?_); rintro e w3 ⟨rfl, hS⟩; have H3 := Lib.hid hS; clear hS)
        | (go_at_call 128; (with_reducible refine (H3.out.done82).mono ?_); rintro e w4 ⟨rfl, rfl⟩; rw [HZ.out]))
      go_ret3
      unfold HdPost
      rw [HH.out]
      rw [if_pos HF.out]
      have h2 := HF.out.2
      exact ⟨H3.out.b, by simp; omega⟩
    · go_enter Tryz.func112, Tryz.ntmps112
      go_wp2_with (first
        | (go_at_call 10; (with_reducible refine HU.out.mono ?_); rintro e w1 ⟨v, rfl, hS⟩; have H1 := Lib.hid hS; clear hS)
        | (go_at_call 42; (with_reducible refine (HRD.out _ _ _ H1.out).mono ?_); rintro e w2 ⟨p, rfl, hS⟩; have H2 := Lib.hid hS; clear hS)
        | (go_at_call 80; (with_reducible refine (HNM.out _ _ _ H2.out).mono ?_); rintro e w3 ⟨rfl, hS⟩; have H3 := Lib.hid hS; clear hS)
        | (go_at_call 128; (with_reducible refine (H3.out.done82).mono ?_); rintro e w4 ⟨rfl, rfl⟩; rw [HZ.out]))
      go_ret3
      unfold HdPost
      rw [HH.out]
      rw [if_neg (by omega)]
      exact ⟨H3.out.b, ((0 : Nat) : Int), (x.2 : Int), by simp⟩
    · go_enter Tryz.func112, Tryz.ntmps112
      go_wp2_with (first
        | (go_at_call 10; (with_reducible refine HU.out.mono ?_); rintro e w1 ⟨v, rfl, hS⟩; have H1 := Lib.hid hS; clear hS)
        | (go_at_call 42; (with_reducible refine (HRD.out _ _ _ H1.out).mono ?_); rintro e w2 ⟨p, rfl, hS⟩; have H2 := Lib.hid hS; clear hS)
        | (go_at_call 80; (with_reducible refine (HNM.out _ _ _ H2.out).mono ?_); rintro e w3 ⟨rfl, hS⟩; have H3 := Lib.hid hS; clear hS)
        | (go_at_call 128; (with_reducible refine (H3.out.done82).mono ?_); rintro e w4 ⟨rfl, rfl⟩; rw [HZ.out]))
      go_ret3
      unfold HdPost
      rw [HH.out]
      rw [if_neg (fun h => by simp [h.1] at hc)]
      exact ⟨H3.out.b, (f : Int), (x.2 : Int), by simp⟩
end
end Go.Proofs.YtnpjfjgnhadmjaaGreatDoor

/- wal.read: a segment's records. -/
namespace Go.Proofs.YtnpjfjgnhadmjaaGreatDoor
open Go.RowKit Go.Deep
set_option linter.unusedVariables false
attribute [local go_sem] Oper.semAt_some

theorem wpListIn_append_run {F : Fence} {n : Nat} {P : Program} {w : World} {ops : Array Oper} {rest : List Oper} {o : Oper} {a : Act} {Q : Exit → Act → World → Prop} (hgd : o.guard = none) (s x : Operand) (t : TypeId)
    (ho : o.op = .call { callee := .builtin .append, args := #[s, x], argTypes := #[t, t] }) {v u v' : Value} {w' : World} (hs : a.eval s = v) (hx : a.eval x = u)
    (hrun : (Builtin.append_ #[t, t] o.type #[v, u]).run P w = .ok v' w') (h : wpListIn F n P ops Q rest (a.put o.dst v') w') : wpListIn F n P ops Q (o :: rest) a w := by
  refine wpListIn_plain hgd fun K hK => ?_
  unfold Oper.wpIn
  refine ⟨by simp [Oper.about, ho, resolve, Target.leads, Sem.run_pure], ?_⟩
  rw [Oper.semAt_plain F _ _ (by rw [ho]; intro c hc'; cases hc')]
  simp [execOp, ho, resolve, invoke, builtin, hs, hx, hrun, Result.andThen]
  exact hK _ _ h
theorem frames_sum : ∀ (n : Nat) (bs : List UInt8), bs.length ≤ n → ((framesF bs).map (·.2)).sum ≤ bs.length ∧ (framesF bs).length ≤ bs.length
  | n, bs, hn => by
    cases h : unframeF bs with
    | none => rw [framesF_none h]; simp
    | some r =>
      obtain ⟨h1, h2, _⟩ := unframe_le h
      rw [framesF_some h]
      obtain ⟨k, rfl⟩ : ∃ k, n = k + 1 := ⟨n - 1, by omega⟩
      have := frames_sum k (bs.drop r.2) (by rw [List.length_drop]; omega)
      rw [List.length_drop] at this
      simp; omega
section
variable {W w : World} {u : Value} {b : List UInt8}
section
variable {w0 : World} {box D : Nat} {b0 : List UInt8} {Y : List Fx → List Asn → Prop}
theorem cel_cons {A : Asn} {L : List Asn} (hA : A.Cel) (h : ∀ A ∈ L, A.Cel) : ∀ C ∈ A :: L, C.Cel := by
  intro C hC
  rcases List.mem_cons.1 hC with rfl | hC
  · exact hA
  · exact h C hC
theorem FrJ.bears (hD : w0.heap.size ≤ D) (hY : ∀ pre L, Y pre L → ∀ A ∈ L, A.Cel) (pre : List Fx) : Bears D (FrJ w0 box b0 Y pre) := by
  refine ⟨?_, ?_⟩
  · rintro W o ⟨rest, A, c, L, h1, h2, h3, h4, h5⟩
    exact ⟨rest, A, c, L, h1, h2, h3, h4, h5.later (B.alloc' _ _)⟩
  · rintro W l o o' ⟨rest, A, c, L, h1, h2, h3, h4, h5⟩ hl ho hno
    exact ⟨rest, A, c, L, h1, h2, h3, h4, h5.putObj o' (cel_cons (aBlk.cel _ _ _) (hY _ _ h4)) (by omega) ho hno⟩
theorem FrY.bears (hD : w0.heap.size ≤ D) (hY : ∀ pre L, Y pre L → ∀ A ∈ L, A.Cel) (pre : List Fx) (x : Fx) : Bears D (FrY w0 box b0 Y pre x) := by
  refine ⟨?_, ?_⟩
  · rintro W o ⟨rest, A, c, L, h1, h2, h3, h4, h5, h6⟩
    exact ⟨rest, A, c, L, h1, h2, h3, h4, h5, h6.later (B.alloc' _ _)⟩
  · rintro W l o o' ⟨rest, A, c, L, h1, h2, h3, h4, h5, h6⟩ hl ho hno
    exact ⟨rest, A, c, L, h1, h2, h3, h4, h5, h6.putObj o' (cel_cons (aBy.cel _ _) (cel_cons (aBlk.cel _ _ _) (hY _ _ h5))) (by omega) ho hno⟩
theorem Fr2.bears (hD : w0.heap.size ≤ D) (hY : ∀ pre L, Y pre L → ∀ A ∈ L, A.Cel) (pre : List Fx) : Bears D (Fr2 w0 box b0 Y pre) := by
  refine ⟨?_, ?_⟩
  · rintro W o ⟨pre', x, rest, A, c, L, h0, h1, h2, h3, h4, h5, h6⟩
    exact ⟨pre', x, rest, A, c, L, h0, h1, h2, h3, h4, h5, h6.later (B.alloc' _ _)⟩
  · rintro W l o o' ⟨pre', x, rest, A, c, L, h0, h1, h2, h3, h4, h5, h6⟩ hl ho hno
    exact ⟨pre', x, rest, A, c, L, h0, h1, h2, h3, h4, h5, h6.putObj o' (cel_cons (aBlk.cel _ _ _) (hY _ _ h5)) (by omega) ho hno⟩
end
theorem frames_c (w : World) (A : Option Addr) (n c : Nat) : Calls Tryz.prog 113 #[.slice A n c] w fun e w' => e = .returned (.func (.func 129) #[] #[.pointer (some ⟨w.heap.size, 0, none⟩)]) ∧ w' = w.alloc (.cells #[.slice A n c] 22) := by
  go_enter Tryz.func113, Tryz.ntmps113
  go_wp2_with fail
  go_ret
  exact ⟨rfl, rfl⟩
/-- what read makes of the frames behind a head -/
def sizF (k : Nat) (pre : List (List UInt8 × Nat)) : Int := ((k + (pre.map (·.2)).sum : Nat) : Int)
/-- the objects of read beside the iterator's -/
def RdY (z s : Nat) (n : Int) (f k : Nat) (pre : List Fx) (L : List Asn) : Prop :=
  ∃ vL, L = [aBlk s 107 #[.int .i64 n, .int .i64 (f : Int), vL, .int .i64 (sizF k (pre.map (·.2)))], aPl vL (pre.map (·.2.1)), aBlk z 107 #[.int .i64 0, .int .i64 0, .slice none 0 0, .int .i64 0]]
theorem RdY.cel {z s : Nat} {n : Int} {f k : Nat} {pre : List Fx} {L : List Asn} (h : RdY z s n f k pre L) : ∀ A ∈ L, A.Cel := by
  obtain ⟨vL, rfl⟩ := h
  intro A hA
  simp only [List.mem_cons, List.not_mem_nil, or_false] at hA
  rcases hA with rfl | rfl | rfl
  · exact aBlk.cel _ _ _
  · exact aPl.cel _ _
  · exact aBlk.cel _ _ _
set_option maxRecDepth 100000 in
set_option maxHeartbeats 4000000 in
theorem read_s (hu : Bs w u b) (hbl : b.length ≤ 1099511627776) {f k : Nat} (hh : headOf b = some (f, k)) (n : Int) :
    Calls Tryz.prog 89 #[.int .i64 n, u] w fun e w' => ∃ vL, e = .returned (.tuple #[.agg #[.int .i64 n, .int .i64 (f : Int), vL, .int .i64 (sizF k (framesF (b.drop k)))], .bool true]) ∧ St w w' [aPl vL ((framesF (b.drop k)).map (·.1))] := by
  obtain ⟨A, c, rfl⟩ := hu.rd.slice
  have HU := Lib.hid hu
  have HHD := Lib.hid (fun w' (hb : B w w') => (head_c (hu.later hb)).mono (R' := fun e w'' => e = .returned (.tuple #[.int .i64 (f : Int), .int .i64 (k : Int), .bool true]) ∧ B w' w'') (fun e w'' h => by
    obtain ⟨h1, h2⟩ := h
    rw [hh] at h2
    exact ⟨h2, h1⟩))
  have hk : k ≤ b.length := by
    unfold headOf at hh
    split at hh
    · cases hh
    · rename_i x hx
      split at hh
      · simp only [Option.some.injEq, Prod.mk.injEq] at hh
        rw [← hh.2]; exact (unframe_le hx).1
      · cases hh
  obtain ⟨A2, c2, s1, s2, hcut, _⟩ := hu.cut k hk
  have HCUT := Lib.hid hcut
  obtain ⟨bl, hl⟩ : ∃ bl, b.length = bl := ⟨_, rfl⟩
  have HL := Lib.hid hl
  rw [hl] at s1 s2 ⊢ hbl
  have hA := B.alloc' w (.cells #[.int .i64 0, .int .i64 0, .slice none 0 0, .int .i64 0] 107)
  have HHD1 := Lib.hid (HHD.out _ hA)
  rw [hl] at HHD1
  clear hu hk hcut hl hA
  refine (callsIn_wide (n := 4)).1 ?_
  refine callsIn_of_wp_marks Tryz.func89 rfl trivial ?_ rfl
  simp only [Tryz.ntmps89, List.size_toArray, List.length_cons, List.length_nil, Nat.reduceAdd, Nat.reduceSub, Array.replicate_succ, Array.replicate_zero, List.push_toArray, List.append_toArray, List.nil_append, List.cons_append]
  gi_wp2_with (first
    | ((try refine ⟨trivial, ?_⟩); gi_at_call 112; (with_reducible refine (callsIn_wide.2 HHD1.out).mono ?_); rintro e w1 ⟨rfl, hb⟩; have HB1 := Lib.hid hb; clear hb)
    | ((try refine ⟨trivial, ?_⟩); gi_at_call 113; (with_reducible refine (callsIn_wide.2 (frames_c _ _ _ _)).mono ?_); rintro e w2 ⟨rfl, rfl⟩))
  have h1 := aBlk.new (St.nil w) 107 #[.int .i64 0, .int .i64 0, .slice none 0 0, .int .i64 0]
  have h4 := aBlk.new (aPl.nil (h1.later HB1.out)) 107 #[.int .i64 n, .int .i64 (f : Int), .slice none 0 0, .int .i64 (k : Int)]
  have h5 := aBlk.new h4 22 #[.slice A2 (bl - k) c2]
  rw [World.size_alloc] at h5
  have H5 := Lib.hid h5
  have hsz : w.heap.size ≤ ((w1.alloc (.cells #[.int .i64 n, .int .i64 (f : Int), .slice none 0 0, .int .i64 (k : Int)] 107)).alloc (.cells #[.slice A2 (bl - k) c2] 22)).heap.size := h5.b.size
  clear h1 h4 h5
  refine range_go (F := Fence.wide) rfl (by omega) (gf := 129) (lb := #[.pointer (some ⟨w1.heap.size + 1, 0, none⟩)]) rfl trivial (enters_of Tryz.func129 (by kernel_rfl) rfl)
    (encs := fun x : Fx => #[x.1, .int .i64 (x.2.2 : Int)]) (S := fun xs => framesF (b.drop k) = xs.map (·.2)) (fun x => rfl)
    (FrJ w (w1.heap.size + 1) (b.drop k) (RdY w.heap.size w1.heap.size n f k)) (Fr2 w (w1.heap.size + 1) (b.drop k) (RdY w.heap.size w1.heap.size n f k)) (FrY w (w1.heap.size + 1) (b.drop k) (RdY w.heap.size w1.heap.size n f k))
    (FrJ.bears hsz (fun _ _ => RdY.cel)) (FrY.bears hsz (fun _ _ => RdY.cel)) (Fr2.bears hsz (fun _ _ => RdY.cel)) ?h0
    (fun x => { tmps := #[.int .i64 n, .slice A bl c, undef, undef, .pointer (some ⟨w.heap.size, 0, none⟩), .bool false, .int .i64 (f : Int), .int .i64 (k : Int), .bool true, .pointer (some ⟨w1.heap.size, 0, none⟩), x.1, .int .i64 (x.2.2 : Int), .tuple #[.int .i64 (f : Int), .int .i64 (k : Int), .bool true], .slice A bl c, .tuple #[.int .i64 (f : Int), .int .i64 (k : Int), .bool true], .int .i64 (f : Int), .int .i64 (k : Int), .bool true, .int .i64 n, .int .i64 (f : Int), .int .i64 (k : Int), .agg #[.int .i64 n, .int .i64 (f : Int), .slice none 0 0, .int .i64 (k : Int)], .bool true, .bool false, undef, undef, .slice A bl c, .pointer (some ⟨w1.heap.size, 3, none⟩), .int .i64 (k : Int), .slice A2 (bl - k) c2, .func (.func 129) #[] #[.pointer (some ⟨w1.heap.size + 1, 0, none⟩)], x.1, .int .i64 (x.2.2 : Int), undef, undef, undef, undef, undef, undef, undef, undef, undef, undef, undef, undef], defers := [] }) ?assign ?body ?hit ?done
  case h0 =>
    refine ⟨b.drop k, A2, c2, _, by simp [restF], by simp, ?_, ⟨.slice none 0 0, rfl⟩, ?_⟩
    · rw [List.length_drop]; exact HCUT.out
    · have := H5.out
      rw [List.length_drop, HL.out]
      simpa [sizF] using this
  case assign =>
    intro l x W K hK
    gi_wp2
    exact hK
  case hit =>
    intro l W1 T hT hT1 h0 hY
    exact frames1_in _ (by omega) l T hT W1 hT1 h0 hY
  case body =>
    rintro l pre ⟨xv, xb, xm⟩ W ⟨rest, A', c', L, hre, hfr, hun, hbs, ⟨vL, rfl⟩, hS⟩
    obtain ⟨Ax, cx, hxv⟩ := hS.bySlice
    dsimp only at hxv
    subst hxv
    have HRE := Lib.hid hre
    clear hre
    dsimp only at hun hS
    have hsum := frames_sum _ (b.drop k) (Nat.le_refl _)
    rw [hfr, framesF_some hun, List.length_drop, HL.out] at hsum
    simp only [List.map_append, List.sum_append, List.map_cons, List.sum_cons, List.length_append, List.length_cons, List.length_map] at hsum
    obtain ⟨sz, hsz2⟩ : ∃ sz, sizF k (pre.map (·.2)) = sz := ⟨_, rfl⟩
    have hsz3 : 0 ≤ sz ∧ sz + (xm : Int) ≤ 1099511627776 + (k : Int) ∧ sz + (xm : Int) ≤ 1099511627776 + 1099511627776 := by
      rw [← hsz2]; unfold sizF; omega
    have hsz4 : sz + (xm : Int) = sizF k (((pre ++ [((.slice Ax xb.length cx : Value), xb, xm)] : List Fx)).map (·.2)) := by
      rw [← hsz2]; unfold sizF; simp; omega
    rw [hsz2] at hS
    have HSZ := Lib.hid hsz4
    obtain ⟨AL, cL, rfl⟩ := aPl.slice hS.rot4
    have hxb : xb.length ≤ big := by have h1 : xb.length ≤ rest.length := (unframe_le hun).2.2; have := hbs.2; omega
    have hM : (pre.map (·.2.1)).length + 1 ≤ 1099511627776 := by rw [List.length_map]; omega
    obtain ⟨A5, c5, w8, hrun, hS8, hK8⟩ := St.plAppendK (ty := 63) hS.rot4 hxb hM
    obtain ⟨pl, hpl⟩ : ∃ pl, (pre.map (·.2.1)).length = pl := ⟨_, rfl⟩
    rw [hpl] at hS hrun hS8
    have m2 := (aBlk.get hS.rot3).cell 2
    have m3 := (aBlk.get hS.rot3).cell 3
    have n2 := (aBlk.get hS8.rot3).cell 2
    have n3 := (aBlk.get hS8.rot3).cell 3
    have f2 := (aBlk.get hS8.rot3).frozen 2
    have f3 := (aBlk.get hS8.rot3).frozen 3
    simp at m2 m3 n2 n3
    have h2 := aBlk.set (aBlk.set hS8.rot3 2 (.slice A5 (pl + 1) c5)) 3 (.int .i64 (sz + (xm : Int)))
    have H2 := Lib.hid h2
    have HK := Lib.hid (hK8.trans ((KeepsOthers.setCell w8 ⟨w1.heap.size, 2, none⟩ (.slice A5 (pl + 1) c5)).trans (KeepsOthers.setCell _ ⟨w1.heap.size, 3, none⟩ (.int .i64 (sz + (xm : Int))))))
    have HFR := Lib.hid hfr
    have HUN := Lib.hid hun
    have HBS := Lib.hid hbs
    obtain ⟨hsz5, hsz6, hsz7⟩ := hsz3
    clear hfr hun hbs hsum hsz2 hsz4 hS hS8 hK8 hpl h2 hsz hbl
    gi_wp2_with (first
      | (gi_at_builtin; refine wpListIn_append_run rfl (.tmp 34) (.tmp 36) 63 rfl rfl rfl hrun ?_))
    refine ⟨HK.out, pre, (_, xb, xm), rest, A', c', _, rfl, HRE.out, HFR.out, HUN.out, HBS.out, ⟨.slice A5 (pl + 1) c5, rfl⟩, ?_⟩
    have h3 := H2.out.rot3
    rw [← HSZ.out, List.map_append]
    exact h3
  case done =>
    rintro D xs W hD hX ⟨rest, A', c', L, hre, hfr, hbs, ⟨vL, rfl⟩, hS⟩ hK
    obtain ⟨AL, cL, rfl⟩ := aPl.slice hS.rot3
    have m0 := (aBlk.get hS.swap).cell 0
    have m1 := (aBlk.get hS.swap).cell 1
    have m2 := (aBlk.get hS.swap).cell 2
    have m3 := (aBlk.get hS.swap).cell 3
    have z0 := (aBlk.get hS.rot4).cell 0
    have z1 := (aBlk.get hS.rot4).cell 1
    have z2 := (aBlk.get hS.rot4).cell 2
    have z3 := (aBlk.get hS.rot4).cell 3
    have f0 := (aBlk.get hS.rot4).frozen 0
    have f1 := (aBlk.get hS.rot4).frozen 1
    have f2 := (aBlk.get hS.rot4).frozen 2
    have f3 := (aBlk.get hS.rot4).frozen 3
    simp at m1 m2 m3 z1 z2 z3
    simp only [List.getElem?_toArray, List.getElem?_cons_zero] at m0 z0
    have HX := Lib.hid hX
    have HS := Lib.hid hS
    obtain ⟨sz, hsz2⟩ : ∃ sz, sizF k (xs.map (·.2)) = sz := ⟨_, rfl⟩
    have HSZ := Lib.hid hsz2
    rw [hsz2] at m3
    have HD := Lib.hid hK
    clear hre hfr hbs hS hX hsz2
    gi_wp2
    have h4 := aBlk.set (aBlk.set (aBlk.set (aBlk.set HS.out.rot4 0 (.int .i64 n)) 1 (.int .i64 (f : Int))) 2 (.slice AL xs.length cL)) 3 (.int .i64 sz)
    have hk4 := ((((KeepsOthers.setCell W ⟨w.heap.size, 0, none⟩ (.int .i64 n)).trans (KeepsOthers.setCell _ ⟨w.heap.size, 1, none⟩ (.int .i64 (f : Int)))).trans (KeepsOthers.setCell _ ⟨w.heap.size, 2, none⟩ (.slice AL xs.length cL))).trans (KeepsOthers.setCell _ ⟨w.heap.size, 3, none⟩ (.int .i64 sz))).same D _ HD.out rfl
    have h5 := h4.putObj (.deferred none) (cel_cons (aBlk.cel _ _ _) (cel_cons (aBlk.cel _ _ _) (cel_cons (aBlk.cel _ _ _) (cel_cons (aPl.cel _ _) (by simp))))) (by omega) hk4 rfl
    refine ⟨by simp, .inl ⟨_, _, rfl, run_takeDeferred hk4, ?_⟩⟩
    have hg := aBlk.get h5
    have hl := run_loadVar_row (P := Tryz.prog) _ _ _ 107 _ _ _ hg Tryz.underlying107 rfl (by kernel_rfl)
    refine ⟨.tuple #[.agg #[.int .i64 n, .int .i64 (f : Int), .slice AL xs.length cL, .int .i64 sz], .bool true], ?_, .slice AL xs.length cL, ?_, ?_⟩
    · rw [results_cell_tmp rfl]
      show ((asAddr (.pointer (some ⟨w.heap.size, 0, none⟩))).run Tryz.prog _).andThen _ = _
      simp only [asAddr, Sem.run_pure, Result.andThen]
      rw [hl]
      rfl
    · rw [HX.out, HSZ.out]
    · have := h5.drop.drop.drop
      rw [List.length_map] at this
      rw [HX.out, List.map_map]
      exact this
end
end Go.Proofs.YtnpjfjgnhadmjaaGreatDoor

/- A log's first segment begun: begins. -/
namespace Go.Proofs.YtnpjfjgnhadmjaaGreatDoor
open Go.RowKit Go.Deep Go.Maps
set_option linter.unusedVariables false

theorem Rd.four (w : World) (x y z u : Value) (t : TypeId) : Rd (w.alloc (.cells #[x, y, z, u] t)) (.slice (some ⟨w.heap.size, 0, none⟩) 1 1) 1 4 [x, y, z, u] := by
  refine ⟨rfl, _, _, rfl, fun e => (by cases e), Nat.le_refl _, fun ad had => ?_⟩
  cases had
  have hk := Blk.new w t #[x, y, z, u]
  refine ⟨fun _ => hk.lt, fun j u' hu => ?_⟩
  have ea : (⟨w.heap.size, 0, none⟩ : Addr).add j = ⟨w.heap.size, j, none⟩ := by unfold Addr.add; split <;> simp_all
  rw [ea, hk.cell, ← hu]
  simp
theorem infoSeg : (Tryz.prog.info? 107).map (fun i => (i.zero, i.size, i.bytes)) = some (some (.agg #[.int .i64 0, .int .i64 0, .slice none 0 0, .int .i64 0]), 4, 48) := by kernel_rfl
/-- a segment's head, of a first record below 128 -/
def headF (k : Nat) : List UInt8 := frameF (enc k)
theorem head1_len : (headF 1).length = 6 := by
  have : enc 1 = [1] := by rw [enc_lt (by omega)]; rfl
  unfold headF
  rw [this]
  unfold frameF bodyF
  rw [show ([1] : List UInt8).length = 1 from rfl, enc_lt (by omega)]
  simp [le4]
def dZero : Dk := ⟨[], 1000, false⟩
def dOne (n : List UInt8) (b : List UInt8) (s : Nat) : Dk := ⟨[⟨file1 n, b, s⟩], 1000, false⟩
theorem file1_ne (n : List UInt8) : file1 n ≠ [] := by simp [file1]
theorem bg0 (n : List UInt8) : createF dZero (file1 n) = (0, dOne n [] 0) := by
  unfold createF dZero
  rw [if_neg (by simp), if_neg (file1_ne n)]
  rfl
theorem may1 (n b : List UInt8) (s : Nat) : mayF (dOne n b s) (file1 n) = (some 0, 0) := by
  unfold mayF dOne
  simp [ixF]
theorem bg1 (n b c : List UInt8) (s : Nat) (h : b.length + c.length ≤ 1000) : appendF (dOne n b s) (file1 n) c = (0, dOne n (b ++ c) s) := by
  unfold appendF
  rw [turn_some (may1 n b s) (f := ⟨file1 n, b, s⟩) rfl]
  rw [if_neg (by simp [dOne, usedF]; omega)]
  rfl
theorem bg2 (n b : List UInt8) (s : Nat) : syncF (dOne n b s) (file1 n) = (0, dOne n b b.length) := by
  unfold syncF
  rw [turn_some (may1 n b s) (f := ⟨file1 n, b, s⟩) rfl]
  rfl
theorem bg3 (n b : List UInt8) (s : Nat) : getF (dOne n b s) (file1 n) = (b, 0) := by
  unfold getF
  rw [may1 n b s]
  rfl
section
variable {W w : World} {p dp : Nat} {X : List Asn} {n : List UInt8} {most : Int}
def lg0 (n : List UInt8) (most : Int) (sure : Int) : Lg := ⟨n, most, sure, 1, 1, 6, []⟩
theorem lg0E (n : List UInt8) (most sure : Int) : LgE (lg0 n most sure) := ⟨by simp [lg0], by simp [lg0], by simp [lg0]⟩
set_option maxRecDepth 20000 in
set_option maxHeartbeats 4000000 in
theorem begins_c (h : St W w (aBlk p 48 #[.pointer (some ⟨dp, 0, none⟩), .string (bstr n), .int .i64 most, .slice none 0 0, .int .i64 0] :: aDisk dp dZero :: X)) (hn : n.length ≤ 4194304) :
    Calls Tryz.prog 54 #[.pointer (some ⟨p, 0, none⟩), .int .i64 1, .int .i64 1] w fun e w' => e = .returned (.int .i64 0) ∧ St W w' (aLg p dp (lg0 n most 0) :: aDisk dp (dOne n (headF 1) 6) :: X) := by
  have hb := aBlk.get h
  have c0 := hb.cell 0
  have c1 := hb.cell 1
  have c3 := hb.cell 3
  simp at c0 c1 c3
  have hfl : (file1 n).length ≤ maxLen := by simp [file1]; unfold maxLen; omega
  have HFL := Lib.hid hfl
  have o4 : ∀ x ∈ [Value.int .i64 1, .int .i64 1, .slice none 0 0, .int .i64 6], x.oneCell' = true := by simp [Value.oneCell']
  have HFI := Lib.hid (fun w' => file_c w' (n := n) (by omega))
  have HCR := Lib.hid (by have := create_c h.swap hfl; rw [bg0] at this; exact this)
  have HPN := Lib.hid (fun w' Y (hS : St W w' Y) => show Calls Tryz.prog 78 #[.slice none 0 0, .int .u64 1] w' fun e w'' => ∃ v, e = .returned v ∧ St W w'' (aBy v (enc 1) :: Y) from hS.fresh (putNum70 (Bs.nil w') 1 (by omega) (by unfold big; simp)))
  have HFR := Lib.hid (fun w' v Y (hS : St W w' (aBy v (enc 1) :: Y)) => frame_yes hS (hS.byBs (by rw [enc_lt (by omega)]; simp [big])) (by rw [enc_lt (by omega)]; simp))
  have H6 := Lib.hid head1_len
  have HBG1 := Lib.hid (by have := bg1 n [] (headF 1) 0 (by rw [head1_len]; simp); simpa using this)
  have HBG2 := Lib.hid (by have := bg2 n (headF 1) 0; rw [head1_len] at this; exact this)
  have HAP := Lib.hid (fun w' v Y (hS : St W w' (aDisk dp (dOne n [] 0) :: aBy v (headF 1) :: Y)) => show Calls Tryz.prog 66 #[.pointer (some ⟨dp, 0, none⟩), .string (bstr (file1 n)), v] w' fun e w'' => e = .returned (.int .i64 0) ∧ St W w'' (aDisk dp (dOne n (headF 1) 0) :: aBy v (headF 1) :: Y) from by
    have := append_c hS HFL.out (hS.swap.byBs (by rw [head1_len]; unfold big; omega)) (by rw [head1_len]; omega)
    rw [HBG1.out] at this
    exact this)
  have HSY := Lib.hid (fun w' Y (hS : St W w' (aDisk dp (dOne n (headF 1) 0) :: Y)) => show Calls Tryz.prog 37 #[.pointer (some ⟨dp, 0, none⟩), .string (bstr (file1 n))] w' fun e w'' => e = .returned (.int .i64 0) ∧ St W w'' (aDisk dp (dOne n (headF 1) 6) :: Y) from by
    have := sync_c hS HFL.out
    rw [HBG2.out] at this
    exact this)
  have HK8 := Lib.hid (fun (w' : World) (s c7 : Nat) (Y : List Asn) (hS : St W w' (aBlk p 48 #[.pointer (some ⟨dp, 0, none⟩), .string (bstr n), .int .i64 most, .slice none 0 0, .int .i64 0] :: aRow 107 4 (.slice (some ⟨s, 0, none⟩) 1 c7) 1 [.int .i64 1, .int .i64 1, .slice none 0 0, .int .i64 6] :: Y)) =>
    show St W (w'.setCell ⟨p, 3, none⟩ (.slice (some ⟨s, 0, none⟩) 1 c7)) (lgL p dp (lg0 n most 0) s c7 (.slice none 0 0) ++ Y) from by
    have h1 := aBlk.set hS 3 (.slice (some ⟨s, 0, none⟩) 1 c7)
    have h2 := aPl.nil h1
    exact h2.rot3.rot3)
  have H66 := H6
  clear h hb hfl H6
  go_enter Tryz.func54, Tryz.ntmps54
  go_wp2_with (first
    | (go_at_call 67; (with_reducible refine (HFI.out _).mono ?_); rintro e w1 ⟨rfl, rfl⟩)
    | (go_at_call 88; (with_reducible refine HCR.out.mono ?_); rintro e w2 ⟨rfl, hS⟩; have H2 := Lib.hid hS; have k0 := hS.cellOf (g := p) (t := 48) (cs := #[.pointer (some ⟨dp, 0, none⟩), .string (bstr n), .int .i64 most, .slice none 0 0, .int .i64 0]) (by simp) 0; simp only [List.getElem?_toArray, List.getElem?_cons_zero] at k0; clear hS)
    | (go_at_call 78; (with_reducible refine (HPN.out _ _ H2.out).mono ?_); rintro e w3 ⟨v3, rfl, hS⟩; have H3 := Lib.hid hS; clear hS)
    | (go_at_call 8; (with_reducible refine (HFR.out _ _ _ H3.out).mono ?_); rintro e w4 ⟨v4, rfl, hS⟩; obtain ⟨A4, c4, hv⟩ := hS.bySlice; rw [show (frameF (enc 1)).length = 6 from H66.out] at hv; subst hv; have H4 := Lib.hid (show St W w4 (aBy (.slice A4 6 c4) (headF 1) :: _) from hS); have k40 := hS.cellOf (g := p) (t := 48) (cs := #[.pointer (some ⟨dp, 0, none⟩), .string (bstr n), .int .i64 most, .slice none 0 0, .int .i64 0]) (by simp) 0; simp only [List.getElem?_toArray, List.getElem?_cons_zero] at k40; clear hS)
    | (go_at_call 66; (with_reducible refine (HAP.out _ _ _ H4.out.rot3).mono ?_); rintro e w5 ⟨rfl, hS⟩; have H5 := Lib.hid hS; have k50 := hS.cellOf (g := p) (t := 48) (cs := #[.pointer (some ⟨dp, 0, none⟩), .string (bstr n), .int .i64 most, .slice none 0 0, .int .i64 0]) (by simp) 0; simp only [List.getElem?_toArray, List.getElem?_cons_zero] at k50; clear hS)
    | (go_at_call 37; (with_reducible refine (HSY.out _ _ H5.out).mono ?_); rintro e w6 ⟨rfl, hS⟩; have H6 := Lib.hid hS; have k63 := hS.cellOf (g := p) (t := 48) (cs := #[.pointer (some ⟨dp, 0, none⟩), .string (bstr n), .int .i64 most, .slice none 0 0, .int .i64 0]) (by simp) 3; simp only [List.getElem?_toArray, List.getElem?_cons_succ, List.getElem?_cons_zero] at k63; clear hS)
    | (at_builtin; refine wpList_append_St rfl (.tmp 64) (.tmp 70) 46 rfl Tryz.underlying46 infoSeg rfl (by decide) rfl rfl ((H6.out.later (B.alloc' _ _)).rowNil 107 4) (Rd.four _ _ _ _ _ _) o4 (by unfold maxLen; omega) (by omega) ?_; intro A7 c7 w7 hS; simp only [Nat.zero_add, List.nil_append] at hS; simp only [Nat.zero_add]; obtain ⟨s, rfl⟩ := hS.rowNSome (by omega); have H8 := Lib.hid (HK8.out _ _ _ _ hS.rot5); have k73 := (aBlk.get hS.rot5).cell 3; have f73 := (aBlk.get hS.rot5).frozen 3; simp at k73; clear hS)
    | (go_at_call 27; (with_reducible refine (Llast_o H8.out (lg0E n most 0)).mono ?_); rintro e w9 ⟨rfl, hb⟩; rw [show lastF (lg0 n most 0) = 0 from rfl]; have H9 := Lib.hid (H8.out.later hb); have k94 := (lgL.cells H9.out).2.2.2.2.1; have f94 := (aBlk.get H9.out).frozen 4; clear hb))
  go_ret
  have h9 := aBlk.set H9.out 4 (.int .i64 0)
  refine ⟨rfl, ?_⟩
  have h10 : St W _ (lgL p dp (lg0 n most 0) s c7 (.slice none 0 0) ++ (aDisk dp (dOne n (headF 1) 6) :: aBy (.slice A4 6 c4) (headF 1) :: aBy v3 (enc 1) :: X)) := h9
  exact (aLg.shut (lg0E n most 0) h10).rot3.drop.rot3.drop
end
end Go.Proofs.YtnpjfjgnhadmjaaGreatDoor

/- Open on a disk without files. -/
namespace Go.Proofs.YtnpjfjgnhadmjaaGreatDoor
open Go.RowKit Go.Deep Go.Maps
set_option linter.unusedVariables false

section
variable {W w : World} {p dp : Nat} {X : List Asn} {n : List UInt8} {most : Int} {d : Dk}
theorem usedD_c (h : St W w (aDisk p d :: X)) : Calls Tryz.prog 33 #[.pointer (some ⟨p, 0, none⟩)] w fun e w' => e = .returned (.int .i64 (usedF d.R : Int)) ∧ B w w' := by
  obtain ⟨m, E, hE, h⟩ := aDisk.open_ h
  exact used_c h hE
theorem offD_c (h : St W w (aDisk p d :: X)) : Calls Tryz.prog 51 #[.pointer (some ⟨p, 0, none⟩)] w fun e w' => e = .returned (.bool d.off) ∧ w = w' := by
  obtain ⟨m, E, hE, h⟩ := aDisk.open_ h
  exact off_c (dkL.blk h)
set_option maxRecDepth 20000 in
set_option maxHeartbeats 4000000 in
theorem open0_bad (h : St W w (aDisk dp dZero :: X)) (hm : mayN n most = false) :
    Calls Tryz.prog 18 #[.pointer (some ⟨dp, 0, none⟩), .string (bstr n), .int .i64 most] w fun e w' => e = .returned (.tuple #[.pointer none, .int .i64 1]) ∧ St W w' (aDisk dp dZero :: X) := by
  have HC := Lib.hid (clone_c h (fun f hf => by cases hf))
  have HM := Lib.hid (fun w' => may_c w' (n := n) (m := most))
  rw [hm] at HM
  clear h hm
  go_enter Tryz.func18, Tryz.ntmps18
  go_wp2_with (first
    | (go_at_call 50; (with_reducible refine HC.out.mono ?_); rintro e w1 ⟨c, rfl, hS⟩; have H1 := Lib.hid hS.drop; clear hS)
    | (go_at_call 51; (with_reducible refine (offD_c H1.out).mono ?_); rintro e w2 ⟨rfl, rfl⟩; rw [show dZero.off = false from rfl])
    | (go_at_call 52; (with_reducible refine (HM.out _).mono ?_); rintro e w3 ⟨rfl, hb⟩; have H3 := Lib.hid (H1.out.later hb); clear hb))
  go_ret2
  exact ⟨rfl, H3.out⟩
set_option maxRecDepth 20000 in
set_option maxHeartbeats 4000000 in
theorem open0_c (h : St W w (aDisk dp dZero :: X)) (hm : mayN n most = true) (hn : n.length ≤ 4194304) :
    Calls Tryz.prog 18 #[.pointer (some ⟨dp, 0, none⟩), .string (bstr n), .int .i64 most] w fun e w' => ∃ p, e = .returned (.tuple #[.pointer (some ⟨p, 0, none⟩), .int .i64 0]) ∧ St W w' (aLg p dp (lg0 n most 0) :: aDisk dp (dOne n (headF 1) 6) :: X) := by
  have HC := Lib.hid (clone_c h (fun f hf => by cases hf))
  have HM := Lib.hid (fun w' => may_c w' (n := n) (m := most))
  have HNL := Lib.hid hn
  rw [hm] at HM
  clear h hm hn
  go_enter Tryz.func18, Tryz.ntmps18
  go_wp2_with (first
    | (go_at_call 50; (with_reducible refine HC.out.mono ?_); rintro e w1 ⟨c, rfl, hS⟩; have H1 := Lib.hid hS.drop; clear hS)
    | (go_at_call 51; (with_reducible refine (offD_c H1.out).mono ?_); rintro e w2 ⟨rfl, rfl⟩; rw [show dZero.off = false from rfl])
    | (go_at_call 52; (with_reducible refine (HM.out _).mono ?_); rintro e w3 ⟨rfl, hb⟩; have H3 := Lib.hid (aBlk.new (H1.out.later hb) 48 #[.pointer (some ⟨dp, 0, none⟩), .string (bstr n), .int .i64 most, .slice none 0 0, .int .i64 0]); clear hb)
    | (go_at_call 53; (with_reducible refine (numbers0 H3.out.swap rfl).mono ?_); rintro e w4 ⟨rfl, hS⟩; have H4 := Lib.hid hS.swap; clear hS)
    | (go_at_call 54; (with_reducible refine (begins_c H4.out HNL.out).mono ?_); rintro e w5 ⟨rfl, hS⟩; have H5 := Lib.hid hS; clear hS))
  go_ret2
  exact ⟨_, rfl, H5.out⟩
end
end Go.Proofs.YtnpjfjgnhadmjaaGreatDoor

/- Bytes made and copied; Append on a log. -/
namespace Go.Proofs.YtnpjfjgnhadmjaaGreatDoor
open Go.RowKit Go.Deep Go.Maps
set_option linter.unusedVariables false

section
variable {W w : World} {L : List Asn} {ops : Array Oper} {rest : List Oper} {o : Oper} {a : Act} {Q : Exit → Act → World → Prop}
def mk8 (n : Nat) : Array Value := madeCells (Value.int .u8 0).cells (n * 1)
theorem mk8_size (n : Nat) : (mk8 n).size = n := by unfold mk8; rw [size_madeCells]; omega
theorem run_mk8 (w : World) (n : Nat) (hn : n ≤ 4194304000) : (Instr.makeSlice 22 (.int .i64 (n : Int)) (.int .i64 (n : Int))).run Tryz.prog w = .ok (.slice (some ⟨w.heap.size, 0, none⟩) n n) (w.alloc (.cells (mk8 n) 5)) := by
  obtain ⟨i0, hi, hz0, hz1, hz2⟩ := info_parts info5
  have := run_make (P := Tryz.prog) (w := w) 22 5 i0 (.int .u8 0) Tryz.underlying22 hi hz0 .i64 .i64 (n : Int) (n : Int) (by omega) (by omega) (by rw [hz2]; omega) (by omega)
  rw [hz1, Int.toNat_natCast] at this
  exact this
/-- 'copy(x, b)' into bytes just made -/
theorem wpList_copy_B (hgd : o.guard = none) (d s : Operand) (ho : o.op = .call { callee := .builtin .copy, args := #[d, s], argTypes := #[22, 22] }) {u : Value} {b : List UInt8} {n : Nat}
    (hd : a.eval d = .slice (some ⟨w.heap.size, 0, none⟩) n n) (hs : a.eval s = u) (hn : b.length = n) (hL : St W w L) (hu : Bs w u b)
    (h : ∀ w', St W w' (aBy (.slice (some ⟨w.heap.size, 0, none⟩) n n) b :: L) → wpList Tryz.prog ops Q rest (a.put o.dst (goInt n)) w') : wpList Tryz.prog ops Q (o :: rest) a (w.alloc (.cells (mk8 n) 5)) := by
  obtain ⟨A, c, rfl⟩ := hu.rd.slice
  have hub := hu.later (B.alloc' w (.cells (mk8 n) 5))
  have hsz : (w.alloc (.cells (mk8 n) 5)).heap.size = w.heap.size + 1 := by simp
  refine wpList_copy_splice (P := Tryz.prog) hgd d s 22 22 ho 5 Tryz.underlying22 (by kernel_rfl) (some ⟨w.heap.size, 0, none⟩) A n n b.length c hd hs w.heap.size 0 (mk8 n).toList 5 (by rw [Array.toArray_toList]; exact heap_alloc_new w _) (cellsB b) (by rw [cellsB_len, hn]; simp)
    (fun hp => ⟨rfl, ?_⟩) (by rw [cellsB_len, hn]; simp [mk8_size]) (cellsB_one b) w.heap.size (w.alloc (.cells (mk8 n) 5)) (Below.refl _ _) (Nat.le_refl _) ?_
  · obtain ⟨⟨A', cap, he, hnn, hc, hm, hr⟩, hl⟩ := hub
    injection he with e1 e2 e3
    subst e1
    cases A with
    | none => have := (hnn rfl).1; subst this; simp [cellsB] at hp
    | some ad => exact ⟨ad, rfl, (hr ad rfl).2⟩
  · intro w' hg hb
    have e0 : splice (mk8 n).toList 0 (cellsB b) = cellsB b := by
      have : (mk8 n).toList.length = n := by simp [mk8_size]
      unfold splice
      rw [List.drop_eq_nil_of_le (by rw [cellsB_len, hn, this]; omega)]
      simp
    have hg := hg.out
    rw [e0] at hg
    rw [cellsB_len, hn]
    have hB : B w w' := ⟨hb.os, hb.tape, hb.output, by have := hb.size; rw [hsz] at this; omega, fun k hk => by
      rw [hb.block k hk]
      exact (B.alloc' w (.cells (mk8 n) 5)).block k hk⟩
    refine h w' (hL.add hB (A := aBy (.slice (some ⟨w.heap.size, 0, none⟩) n n) b) (own := fun x => x = w.heap.size) ⟨?_, fun g hg => by simpa [Value.ownBlock] using hg.symm⟩ (fun x e => by omega))
    rw [hn]
    exact ⟨by rw [cellsB_len, hn]; omega, .inr ⟨_, n, (cellsB b).toArray, rfl, Nat.zero_le _, hg, Nat.le_refl _, by have := hu.2; unfold big at this; unfold maxLen; omega, by simp [cellsB_len, hn], by rw [List.take_of_length_le (by simp [cellsB_len, hn])]⟩⟩
end
end Go.Proofs.YtnpjfjgnhadmjaaGreatDoor

/- Append on a log with one segment. -/
namespace Go.Proofs.YtnpjfjgnhadmjaaGreatDoor
open Go.RowKit Go.Deep Go.Maps
set_option linter.unusedVariables false

def Lg.add (g : Lg) (b : List UInt8) : Lg := { g with L := g.L ++ [b], size := g.size + ((frameF b).length : Int) }
theorem frame_len {b : List UInt8} (h : b.length ≤ 524288) : (frameF b).length ≤ 524302 := by
  have := body_len h
  unfold frameF
  rw [List.length_append]
  simp [le4]; omega
section
variable {W w : World} {p dp : Nat} {X : List Asn} {g : Lg} {d d' : Dk} {u : Value} {b : List UInt8}
set_option maxRecDepth 20000 in
set_option maxHeartbeats 8000000 in
theorem Lappend_c (h : St W w (aLg p dp g :: aDisk dp d :: X)) (hu : ∀ (w' : World) (Y : List Asn), St W w' (Y ++ X) → Bs w' u b) (hb : b.length ≤ 524288) (hg1 : g.n = 1) (hroll : g.L = [] ∨ g.size < g.most) (hn : g.name.length ≤ 4194304) (hap : appendF d (file1 g.name) (frameF b) = (0, d'))
    (hsz : 0 ≤ g.size ∧ g.size ≤ 1099511627776) (hl : g.L.length + 1 ≤ 1099511627776) :
    Calls Tryz.prog 21 #[.pointer (some ⟨p, 0, none⟩), u] w fun e w' => e = .returned (.tuple #[.int .i64 (lastF (g.add b)), .int .i64 0]) ∧ St W w' (aLg p dp (g.add b) :: aDisk dp d' :: X) := by
  obtain ⟨s, c, vL, hE, h⟩ := aLg.open_ h
  have HN := Lib.hid (Lnone_o h)
  obtain ⟨AL, cL, rfl⟩ := lgL.recs h
  have hu0 : Bs w u b := hu w (lgL p dp g s c (.slice AL g.L.length cL) ++ [aDisk dp d]) h
  have HFR := Lib.hid (frame_yes h hu0 hb)
  have HU := Lib.hid hu
  have HFL := Lib.hid (frame_len hb)
  have hfn : (file1 g.name).length ≤ maxLen := by simp [file1]; unfold maxLen; omega
  have HFI := Lib.hid (fun w' => file_c w' (n := g.name) (by omega))
  obtain ⟨Au, cu, rfl⟩ := hu0.rd.slice
  have HE2 : LgE (g.add b) := ⟨by simp [Lg.add]; omega, hE.2.1, hE.2.2⟩
  have HEE := Lib.hid HE2
  have HAP := Lib.hid (fun w' v Y (hS : St W w' (aDisk dp d :: Y)) (hv : Bs w' v (frameF b)) => show Calls Tryz.prog 66 #[.pointer (some ⟨dp, 0, none⟩), .string (bstr (file1 g.name)), v] w' fun e w'' => e = .returned (.int .i64 0) ∧ St W w'' (aDisk dp d' :: Y) from by
    have := append_c hS hfn hv (by have := HFL.out; omega)
    rw [hap] at this
    exact this)
  have HSL := Lib.hid (fun w' A c' => segLast_c (g := g.add b) w' HE2 (A := A) (c' := c'))
  obtain ⟨name, most, sure, sn, first, size, L⟩ := g
  simp only [Lg.add] at *
  subst hg1
  have HL1 := Lib.hid (show (L ++ [b]).length = L.length + 1 by simp)
  generalize lastF { name := name, most := most, sure := sure, n := 1, first := first, size := size + ((frameF b).length : Int), L := L ++ [b] } = z at *
  rw [HL1.out] at HSL
  obtain ⟨fl, hfl⟩ : ∃ fl, (frameF b).length = fl := ⟨_, rfl⟩
  have HFLE := Lib.hid hfl
  have hfl2 : fl ≤ 524302 := by have := HFL.out; omega
  rw [hfl] at HSL
  obtain ⟨l, hll⟩ : ∃ l, L.length = l := ⟨_, rfl⟩
  have HLL := Lib.hid hll
  obtain ⟨bl, hbl⟩ : ∃ bl, b.length = bl := ⟨_, rfl⟩
  have HBL := Lib.hid hbl
  obtain ⟨hsz1, hsz2⟩ := hsz
  have hr2 : L.length = 0 ∨ size < most := hroll.elim (fun e => .inl (by rw [e]; rfl)) .inr
  rw [hll] at hr2
  have hmk := fun w' => run_mk8 w' bl (by omega)
  rw [hbl] at HFR HU ⊢
  rw [hll] at HFR HSL
  have HBB := Lib.hid (show b.length ≤ big by unfold big; omega)
  have HLB := Lib.hid hl
  have HK := Lib.hid (fun (w5 : World) (A5 : Option Addr) (c5 : Nat) (vf : Value) (hS : St W w5 (aRow 107 4 (.slice (some ⟨s, 0, none⟩) 1 c) 1 [.int .i64 1, .int .i64 first, .slice AL l cL, .int .i64 size] :: aPl (.slice A5 (l + 1) c5) (L ++ [b]) :: aDisk dp d' :: aBlk p 48 #[.pointer (some ⟨dp, 0, none⟩), .string (bstr name), .int .i64 most, .slice (some ⟨s, 0, none⟩) 1 c, .int .i64 sure] :: aBy vf (frameF b) :: X)) =>
    show St W ((w5.setCell ⟨s, 2, none⟩ (.slice A5 (l + 1) c5)).setCell ⟨s, 3, none⟩ (.int .i64 (size + fl))) (lgL p dp { name := name, most := most, sure := sure, n := 1, first := first, size := size + ((frameF b).length : Int), L := L ++ [b] } s c (.slice A5 (l + 1) c5) ++ (aDisk dp d' :: X)) from by
    have h1 := hS.rowSet (j := 2) (by omega) (.slice A5 (l + 1) c5)
    have h2 := h1.rowSet (j := 3) (by omega) (.int .i64 (size + fl))
    simp only [List.set_cons_succ, List.set_cons_zero] at h2
    rw [← HFLE.out] at h2 ⊢
    exact h2.rot4.rot5.drop)
  have HCL := Lib.hid (fun (w' : World) (Y : List Asn) (hS : St W w' (lgL p dp { name := name, most := most, sure := sure, n := 1, first := first, size := size, L := L } s c (.slice AL l cL) ++ Y)) => lgL.cells hS)
  have HEN := Lib.hid (fun (w' : World) (Y : List Asn) (hS : St W w' (lgL p dp { name := name, most := most, sure := sure, n := 1, first := first, size := size, L := L } s c (.slice AL l cL) ++ Y)) => Lend_o hS)
  clear h hu hu0 hb hn hap hl hfn hE HE2 hfl hll hbl hroll
  go_enter Tryz.func21, Tryz.ntmps21
  go_wp2_with (first
    | (go_at_call 64; (with_reducible refine HN.out.mono ?_); rintro e w1 ⟨rfl, rfl⟩)
    | (go_at_call 8; (with_reducible refine HFR.out.mono ?_); rintro e w2 ⟨vf, rfl, hS⟩; obtain ⟨Af, cf, hv⟩ := hS.bySlice; rw [HFLE.out] at hv; subst hv; have H2 := Lib.hid (show St W w2 (lgL p dp { name := name, most := most, sure := sure, n := 1, first := first, size := size, L := L } s c (.slice AL l cL) ++ (aBy (.slice Af fl cf) (frameF b) :: aDisk dp d :: X)) from St.rot4 (St.rot4 (St.rot4 hS))); clear hS)
    | (go_at_call 65; (with_reducible refine (HEN.out _ _ H2.out).mono ?_); rintro e w3 ⟨rfl, hb⟩; have H3 := Lib.hid (H2.out.later hb); obtain ⟨m0, m1, m2, m3, m4, n0, n1, n2, n3⟩ := HCL.out _ _ H3.out; clear hb))
  have hcase : (¬ 0 < l) ∨ (0 < l ∧ ¬ most ≤ size) := by omega
  rcases hcase with p1 | ⟨p1, p2⟩
  all_goals
    go_quiet (fail)
    go_wp2_with (first
      | (go_at_call 65; (with_reducible refine (HEN.out _ _ (H3.out.drewN _)).mono ?_); rintro e w4 ⟨rfl, hb⟩; have H4 := Lib.hid (((H3.out.drewN _).later hb).later (Below.refl _ _).drew); have hS := (H3.out.drewN _).later hb; clear m0 m1 m2 m3 m4 n0 n1 n2 n3; obtain ⟨m0, m1, m2, m3, m4, n0, n1, n2, n3⟩ := HCL.out _ _ hS; clear hb hS))
    go_region_held3 (fun w' => w'.cell? ⟨p, 0, none⟩ = some (.pointer (some ⟨dp, 0, none⟩)) ∧ w'.cell? ⟨p, 1, none⟩ = some (.string (bstr name)) ∧ w'.cell? ⟨s, 0, none⟩ = some (.int .i64 1)) (first | assumption | (refine ⟨?_, ?_, ?_⟩ <;> assumption)) (first
      | (go_at_call 67; (with_reducible refine (HFI.out _).mono ?_); rintro e w5 ⟨rfl, rfl⟩)
      | (go_at_call 66; (with_reducible refine (HAP.out _ _ _ (St.rot5 H4.out) ((St.rot4 H4.out).byBs (by have := HFL.out; unfold big; omega))).mono ?_); rintro e w6 ⟨rfl, hS⟩; have H6 := Lib.hid hS; clear m0 m1 m2 m3 m4 n0 n1 n2 n3; obtain ⟨m0, m1, m2, m3, m4, n0, n1, n2, n3⟩ := HCL.out _ _ (St.drop hS); clear hS))
    all_goals
      go_wp2_with (first
        | (at_builtin; refine wpList_append_run rfl (.tmp 77) (.tmp 79) 63 rfl rfl rfl hrun ?_)
        | (go_at_call 68; (with_reducible refine (HSL.out _ _ _).mono ?_); rintro e w9 ⟨rfl, hb⟩; have H10 := Lib.hid (H9.out.later hb); clear hb)
        | ((with_reducible refine wpList_copy_B rfl (.tmp 70) (.tmp 71) rfl rfl rfl HBL.out H6.out (HU.out _ [_, _, _, _, _] H6.out) ?_); intro w7 hS; obtain ⟨A5, c5, w8, hrun, hS8⟩ := St.plAppend (ty := 63) (St.rot5 hS) HBB.out HLB.out; rw [HLL.out] at hrun hS8; have H8 := Lib.hid (show St W w8 (aRow 107 4 (.slice (some ⟨s, 0, none⟩) 1 c) 1 [.int .i64 1, .int .i64 first, .slice AL l cL, .int .i64 size] :: aPl (.slice A5 (l + 1) c5) (L ++ [b]) :: aDisk dp d' :: aBlk p 48 #[.pointer (some ⟨dp, 0, none⟩), .string (bstr name), .int .i64 most, .slice (some ⟨s, 0, none⟩) 1 c, .int .i64 sure] :: aBy (.slice Af fl cf) (frameF b) :: X) from St.rot4 hS8); have a82 := H8.out.rowN (j := 2) rfl; have a83 := H8.out.rowN (j := 3) rfl; have a80 := H8.out.rowN (j := 0) rfl; have a81 := H8.out.rowN (j := 1) rfl; have f82 := H8.out.rowFree 2; have f83 := H8.out.rowFree 3; have H9 := Lib.hid (HK.out _ _ _ _ H8.out); have l7 := hS.rot5.rot5.rowN (j := 2) rfl; clear hS hS8))
      go_ret2
      exact ⟨rfl, aLg.shut HEE.out H10.out⟩
end
end Go.Proofs.YtnpjfjgnhadmjaaGreatDoor

/- The first segment read behind none: reads. -/
namespace Go.Proofs.YtnpjfjgnhadmjaaGreatDoor
open Go.RowKit Go.Deep Go.Maps
set_option linter.unusedVariables false

/-- a disk with a log's first file alone -/
def dF (n : List UInt8) (b : List UInt8) (s : Nat) (r : Int) : Dk := ⟨[⟨file1 n, b, s⟩], r, false⟩
theorem mayD (n b : List UInt8) (s : Nat) (r : Int) : mayF (dF n b s r) (file1 n) = (some 0, 0) := by
  unfold mayF dF
  simp [ixF]
theorem getD (n b : List UInt8) (s : Nat) (r : Int) : getF (dF n b s r) (file1 n) = (b, 0) := by
  unfold getF
  rw [mayD n b s r]
  rfl
theorem syncD (n b : List UInt8) (s : Nat) (r : Int) : syncF (dF n b s r) (file1 n) = (0, dF n b b.length r) := by
  unfold syncF
  rw [turn_some (mayD n b s r) (f := ⟨file1 n, b, s⟩) rfl]
  rfl
theorem truncD (n b : List UInt8) (s : Nat) (r : Int) (k : Nat) (hk : k ≤ b.length) : truncF (dF n b s r) (file1 n) (k : Int) = (0, dF n (b.take k) (min s k) r) := by
  unfold truncF
  rw [turn_some (mayD n b s r) (f := ⟨file1 n, b, s⟩) rfl]
  rw [if_neg (by simp; omega)]
  rfl
theorem headOf_le {b : List UInt8} {f k : Nat} (hh : headOf b = some (f, k)) : k ≤ b.length ∧ 1 ≤ f ∧ f ≤ 9007199254740992 := by
  unfold headOf at hh
  split at hh
  · cases hh
  · rename_i x hx
    split at hh
    · rename_i h1
      simp only [Option.some.injEq, Prod.mk.injEq] at hh
      have := numS_le x.1 0 9007199254740992
      rw [← hh.2, ← hh.1]
      exact ⟨(unframe_le hx).1, h1.2, this⟩
    · cases hh
theorem sizF_le {b : List UInt8} {k : Nat} (hk : k ≤ b.length) : 0 ≤ sizF k (framesF (b.drop k)) ∧ sizF k (framesF (b.drop k)) ≤ (b.length : Int) ∧ (framesF (b.drop k)).length ≤ b.length := by
  have := frames_sum _ (b.drop k) (Nat.le_refl _)
  rw [List.length_drop] at this
  unfold sizF
  omega
/-- the log that a file says -/
def lgOf (n : List UInt8) (most sure : Int) (b : List UInt8) (f k : Nat) : Lg := ⟨n, most, sure, 1, f, sizF k (framesF (b.drop k)), (framesF (b.drop k)).map (·.1)⟩
/-- the file mended -/
def mendF (b : List UInt8) (k : Nat) : List UInt8 := b.take (sizF k (framesF (b.drop k))).toNat
theorem mendF_len {b : List UInt8} {k : Nat} (hk : k ≤ b.length) : ((mendF b k).length : Int) = sizF k (framesF (b.drop k)) := by
  have := sizF_le hk
  unfold mendF
  rw [List.length_take]
  omega
theorem lgOfE {n : List UInt8} {most sure : Int} {b : List UInt8} {f k : Nat} (hh : headOf b = some (f, k)) (hb : b.length ≤ 4194304) : LgE (lgOf n most sure b f k) := by
  obtain ⟨h1, h2, h3⟩ := headOf_le hh
  have := sizF_le h1
  refine ⟨by simp [lgOf]; omega, by simp [lgOf], by simp [lgOf]; omega⟩
section
variable {W w : World} {p dp : Nat} {X : List Asn} {n b : List UInt8} {most r : Int} {s f k : Nat}
theorem lg3 {v x : Value} (h : St W w (aBlk p 48 #[.pointer (some ⟨dp, 0, none⟩), .string (bstr n), .int .i64 most, v, x] :: X)) : w.cell? ⟨p, 0, none⟩ = some (.pointer (some ⟨dp, 0, none⟩)) ∧ w.cell? ⟨p, 1, none⟩ = some (.string (bstr n)) ∧ w.cell? ⟨p, 3, none⟩ = some v := by
  have hb := aBlk.get h
  have c0 := hb.cell 0
  have c1 := hb.cell 1
  have c3 := hb.cell 3
  simp at c1 c3
  simp only [List.getElem?_toArray, List.getElem?_cons_zero] at c0
  exact ⟨c0, c1, c3⟩
set_option maxRecDepth 20000 in
set_option maxHeartbeats 8000000 in
theorem reads_c (h : St W w (aBlk p 48 #[.pointer (some ⟨dp, 0, none⟩), .string (bstr n), .int .i64 most, .slice none 0 0, .int .i64 0] :: aDisk dp (dF n b s r) :: X)) (hn : n.length ≤ 4194304) (hb : b.length ≤ 4194304) (hh : headOf b = some (f, k)) :
    Calls Tryz.prog 55 #[.pointer (some ⟨p, 0, none⟩), .int .i64 1, .bool true] w fun e w' => e = .returned (.int .i64 0) ∧ St W w' (aLg p dp (lgOf n most 0 b f k) :: aDisk dp (dF n (mendF b k) (mendF b k).length r) :: X) := by
  have hfn : (file1 n).length ≤ maxLen := by simp [file1]; unfold maxLen; omega
  have HFI := Lib.hid (fun w' => file_c w' (n := n) (by omega))
  have HGE := Lib.hid (fun w' (hS : St W w' (aBlk p 48 #[.pointer (some ⟨dp, 0, none⟩), .string (bstr n), .int .i64 most, .slice none 0 0, .int .i64 0] :: aDisk dp (dF n b s r) :: X)) => show Calls Tryz.prog 34 #[.pointer (some ⟨dp, 0, none⟩), .string (bstr (file1 n))] w' fun e w' => ∃ v, e = .returned (.tuple #[v, .int .i64 0]) ∧ St W w' (aBy v b :: aDisk dp (dF n b s r) :: aBlk p 48 #[.pointer (some ⟨dp, 0, none⟩), .string (bstr n), .int .i64 most, .slice none 0 0, .int .i64 0] :: X) from by
    have := get_c hS.swap hfn
    rw [getD] at this
    exact this)
  have H0 := Lib.hid h
  have HFN := Lib.hid hfn
  obtain ⟨c0, c1, c3⟩ := lg3 h
  obtain ⟨hk, hf1, hf2⟩ := headOf_le hh
  obtain ⟨z1, z2, z3⟩ := sizF_le hk
  have HBL := Lib.hid hb
  have HRD := Lib.hid (fun w' v (hv : Bs w' v b) => read_s hv (by have := HBL.out; omega) hh 1)
  have HML := Lib.hid (mendF_len hk)
  have hLL : ((framesF (b.drop k)).map (·.1)).length ≤ 4194304 := by rw [List.length_map]; omega
  have HLL := Lib.hid hLL
  obtain ⟨l, hln⟩ : ∃ l, ((framesF (b.drop k)).map (·.1)).length = l := ⟨_, rfl⟩
  have HLn := Lib.hid hln
  obtain ⟨bl, hbl⟩ : ∃ bl, b.length = bl := ⟨_, rfl⟩
  have HBL2 := Lib.hid hbl
  obtain ⟨sz, hsz⟩ : ∃ sz, sizF k (framesF (b.drop k)) = sz := ⟨_, rfl⟩
  have HSZ := Lib.hid hsz
  rw [hsz] at z1 z2 HRD HML
  rw [hbl] at z2 hb hk
  have HLG := Lib.hid (show lgOf n most 0 b f k = ⟨n, most, 0, 1, f, sz, (framesF (b.drop k)).map (·.1)⟩ by unfold lgOf; rw [hsz])
  have HGE2 := Lib.hid (lgOfE (n := n) (most := most) (sure := 0) hh HBL.out)
  have hszk : sz = ((sz.toNat : Nat) : Int) := by omega
  have HTR := Lib.hid (fun w' Y (hS : St W w' (aDisk dp (dF n b s r) :: Y)) => show Calls Tryz.prog 90 #[.pointer (some ⟨dp, 0, none⟩), .string (bstr (file1 n)), .int .i64 sz] w' fun e w' => e = .returned (.int .i64 0) ∧ St W w' (aDisk dp (dF n (mendF b k) (min s sz.toNat) r) :: Y) from by
    have := trunc_c (k := sz) hS hfn (by omega)
    have e1 := truncD n b s r sz.toNat (by omega)
    rw [← hszk] at e1
    rw [e1] at this
    unfold mendF
    rw [hsz]
    exact this)
  have HSY := Lib.hid (fun w' s2 Y (hS : St W w' (aDisk dp (dF n (mendF b k) s2 r) :: Y)) => show Calls Tryz.prog 37 #[.pointer (some ⟨dp, 0, none⟩), .string (bstr (file1 n))] w' fun e w' => e = .returned (.int .i64 0) ∧ St W w' (aDisk dp (dF n (mendF b k) (mendF b k).length r) :: Y) from by
    have := sync_c hS hfn
    rw [syncD] at this
    exact this)
  have HME := Lib.hid (show ¬ sz < (bl : Int) → mendF b k = b from fun h => by unfold mendF; rw [hsz]; exact List.take_of_length_le (by omega))
  have HK := Lib.hid (fun (w' : World) (g c q : Nat) (AL : Option Addr) (cL : Nat) (s2 : Nat) (vb : Value) (hS : St W w' (aRow 107 4 (.slice (some ⟨g, 0, none⟩) 1 c) 1 [.int .i64 1, .int .i64 (f : Int), .slice AL l cL, .int .i64 sz] :: aDisk dp (dF n (mendF b k) s2 r) :: aBlk p 48 #[.pointer (some ⟨dp, 0, none⟩), .string (bstr n), .int .i64 most, .slice none 0 0, .int .i64 0] :: aBlk q 107 #[.int .i64 1, .int .i64 (f : Int), .slice AL l cL, .int .i64 sz] :: aPl (.slice AL l cL) ((framesF (b.drop k)).map (·.1)) :: aBy vb b :: X)) =>
    show St W (w'.setCell ⟨p, 3, none⟩ (.slice (some ⟨g, 0, none⟩) 1 c)) (aDisk dp (dF n (mendF b k) s2 r) :: (lgL p dp ⟨n, most, 0, 1, f, sz, (framesF (b.drop k)).map (·.1)⟩ g c (.slice AL l cL) ++ X)) from by
    have h1 := aBlk.set hS.rot3 3 (.slice (some ⟨g, 0, none⟩) 1 c)
    have h2 := h1.rot6.drop.rot4.drop
    exact h2.rot3)
  clear hszk
  clear h hfn hLL hln hbl hsz z3 hh
  go_enter Tryz.func55, Tryz.ntmps55
  go_wp2_with fail
  go_region_held3 (fun w' => w'.cell? ⟨p, 0, none⟩ = some (.pointer (some ⟨dp, 0, none⟩)) ∧ w'.cell? ⟨p, 1, none⟩ = some (.string (bstr n))) (first | assumption | (refine ⟨?_, ?_⟩ <;> assumption)) (first
      | (go_at_call 67; (with_reducible refine (HFI.out _).mono ?_); rintro e w1 ⟨rfl, rfl⟩)
      | (go_at_call 34; (with_reducible refine (HGE.out _ (H0.out.later (Below.refl _ _).drew)).mono ?_); rintro e w2 ⟨v, rfl, hS⟩; obtain ⟨Av, cv, hv⟩ := hS.bySlice; rw [HBL2.out] at hv; subst hv; have H2 := Lib.hid hS; obtain ⟨k0, k1, k3⟩ := lg3 hS.rot3; clear hS c0 c1 c3))
  go_wp2_with (first
      | (go_at_call 89; (with_reducible refine (HRD.out _ _ ((show St W w2 (aBy _ b :: _) from H2.out).byBs (by have := HBL.out; unfold big; omega))).mono ?_); rintro e w3 ⟨vL, rfl, hS⟩; have h3 := H2.out.onto hS; obtain ⟨AL, cL, hv⟩ := aPl.slice h3; rw [HLn.out] at hv; subst hv; have h4 := aBlk.new h3.rot4 107 #[.int .i64 1, .int .i64 (f : Int), .slice AL l cL, .int .i64 sz]; have H4 := Lib.hid h4.swap; clear hS k0 k1 k3 h3; obtain ⟨k0, k1, k3⟩ := lg3 H4.out; have q0 := (aBlk.get h4).cell 0; have q1 := (aBlk.get h4).cell 1; have q2 := (aBlk.get h4).cell 2; have q3 := (aBlk.get h4).cell 3; simp only [List.getElem?_toArray, List.getElem?_cons_zero] at q0; simp only [List.getElem?_toArray, List.getElem?_cons_zero, List.getElem?_cons_succ] at q1 q2 q3; clear h4))
  · go_region_held3 (fun w' => w'.cell? ⟨p, 0, none⟩ = some (.pointer (some ⟨dp, 0, none⟩)) ∧ w'.cell? ⟨p, 1, none⟩ = some (.string (bstr n)) ∧ w'.cell? ⟨w3.heap.size, 3, none⟩ = some (.int .i64 sz)) (first | assumption | (refine ⟨?_, ?_, ?_⟩ <;> assumption)) (first
      | (go_at_call 67; (with_reducible refine (HFI.out _).mono ?_); rintro e w4 ⟨rfl, rfl⟩)
      | (go_at_call 90; (with_reducible refine (HTR.out _ _ ((H4.out.later (Below.refl _ _).drew).rot5)).mono ?_); rintro e w5 ⟨rfl, hS⟩; have H5 := Lib.hid hS; clear k0 k1 k3 q0 q1 q2 q3; obtain ⟨k0, k1, k3⟩ := lg3 hS.swap; have q0 := (aBlk.get hS.rot3).cell 0; have q1 := (aBlk.get hS.rot3).cell 1; have q2 := (aBlk.get hS.rot3).cell 2; have q3 := (aBlk.get hS.rot3).cell 3; simp only [List.getElem?_toArray, List.getElem?_cons_zero] at q0; simp only [List.getElem?_toArray, List.getElem?_cons_zero, List.getElem?_cons_succ] at q1 q2 q3; clear hS))
    go_wp2_with fail
    have o4 : ∀ x ∈ [Value.int .i64 1, .int .i64 (f : Int), .slice AL l cL, .int .i64 sz], x.oneCell' = true := by simp [Value.oneCell']
    have ka3 := (lg3 (H5.out.later (B.alloc' _ (.cells #[.int .i64 1, .int .i64 (f : Int), .slice AL l cL, .int .i64 sz] 107))).swap).2.2
    go_region_law (first
      | (refine step_append_St rfl (.tmp 175) (.tmp 177) 46 rfl Tryz.underlying46 infoSeg rfl (by decide) rfl rfl (((H5.out.later (Below.refl _ _).drew).later (B.alloc' _ _)).rowNil 107 4) (Rd.four _ _ _ _ _ _) o4 (by unfold maxLen; omega) (by omega) ?_; intro A7 c7 w7 hS; simp only [Nat.zero_add, List.nil_append] at hS; simp only [Nat.zero_add]; obtain ⟨g, rfl⟩ := hS.rowNSome (by omega); have H8 := Lib.hid (HK.out _ _ _ _ _ _ _ _ hS); have k73 := (lg3 hS.rot3).2.2; have f73 := (aBlk.get hS.rot3).frozen 3; clear hS))
    all_goals
      clear k0 k1 k3 ka3 k73 f73
      have h9 := H8.out.rot4.rot4.rot4
      obtain ⟨k0, k1, _⟩ := lgL.cells h9
      clear h9
      go_wp2_with fail
      go_region_held3 (fun w' => w'.cell? ⟨p, 0, none⟩ = some (.pointer (some ⟨dp, 0, none⟩)) ∧ w'.cell? ⟨p, 1, none⟩ = some (.string (bstr n))) (first | assumption | (refine ⟨?_, ?_⟩ <;> assumption)) (first
        | (go_at_call 67; (with_reducible refine (HFI.out _).mono ?_); rintro e w8 ⟨rfl, rfl⟩)
        | (go_at_call 37; (with_reducible refine (HSY.out _ _ _ (H8.out.later (Below.refl _ _).drew)).mono ?_); rintro e w9 ⟨rfl, hS⟩; have H9 := Lib.hid hS; have h9 := hS.rot4.rot4.rot4; clear k0 k1; obtain ⟨k0, k1, _⟩ := lgL.cells h9; clear hS h9))
      all_goals
        go_wp2_with fail
        go_ret
        refine ⟨rfl, ?_⟩
        rw [HLG.out]
        exact aLg.shut (by rw [← HLG.out]; exact HGE2.out) H9.out.rot4.rot4.rot4
  · have H5 := Lib.hid (show St W _ (aDisk dp (dF n (mendF b k) s r) :: _) from by rw [HME.out (by assumption)]; exact H4.out.rot5)
    obtain ⟨w5, hw5⟩ : ∃ w5, w3.alloc (.cells #[.int .i64 1, .int .i64 (f : Int), .slice AL l cL, .int .i64 sz] 107) = w5 := ⟨_, rfl⟩
    rw [hw5] at H5 k0 k1 k3 q0 q1 q2 q3 ⊢
    clear hw5 H4
    have o4 : ∀ x ∈ [Value.int .i64 1, .int .i64 (f : Int), .slice AL l cL, .int .i64 sz], x.oneCell' = true := by simp [Value.oneCell']
    have ka3 := (lg3 (H5.out.later (B.alloc' _ (.cells #[.int .i64 1, .int .i64 (f : Int), .slice AL l cL, .int .i64 sz] 107))).swap).2.2
    go_region_law (first
      | (refine step_append_St rfl (.tmp 175) (.tmp 177) 46 rfl Tryz.underlying46 infoSeg rfl (by decide) rfl rfl (((H5.out.later (Below.refl _ _).drew).later (B.alloc' _ _)).rowNil 107 4) (Rd.four _ _ _ _ _ _) o4 (by unfold maxLen; omega) (by omega) ?_; intro A7 c7 w7 hS; simp only [Nat.zero_add, List.nil_append] at hS; simp only [Nat.zero_add]; obtain ⟨g, rfl⟩ := hS.rowNSome (by omega); have H8 := Lib.hid (HK.out _ _ _ _ _ _ _ _ hS); have k73 := (lg3 hS.rot3).2.2; have f73 := (aBlk.get hS.rot3).frozen 3; clear hS))
    all_goals
      clear k0 k1 k3 ka3 k73 f73
      have h9 := H8.out.rot4.rot4.rot4
      obtain ⟨k0, k1, _⟩ := lgL.cells h9
      clear h9
      go_wp2_with fail
      go_region_held3 (fun w' => w'.cell? ⟨p, 0, none⟩ = some (.pointer (some ⟨dp, 0, none⟩)) ∧ w'.cell? ⟨p, 1, none⟩ = some (.string (bstr n))) (first | assumption | (refine ⟨?_, ?_⟩ <;> assumption)) (first
        | (go_at_call 67; (with_reducible refine (HFI.out _).mono ?_); rintro e w8 ⟨rfl, rfl⟩)
        | (go_at_call 37; (with_reducible refine (HSY.out _ _ _ (H8.out.later (Below.refl _ _).drew)).mono ?_); rintro e w9 ⟨rfl, hS⟩; have H9 := Lib.hid hS; have h9 := hS.rot4.rot4.rot4; clear k0 k1; obtain ⟨k0, k1, _⟩ := lgL.cells h9; clear hS h9))
      all_goals
        go_wp2_with fail
        go_ret
        refine ⟨rfl, ?_⟩
        rw [HLG.out]
        exact aLg.shut (by rw [← HLG.out]; exact HGE2.out) H9.out.rot4.rot4.rot4
end
end Go.Proofs.YtnpjfjgnhadmjaaGreatDoor

/- Open on a disk with a log's first file alone. -/
namespace Go.Proofs.YtnpjfjgnhadmjaaGreatDoor
open Go.RowKit Go.Deep Go.Maps
set_option linter.unusedVariables false

/-- the log that Open makes of a file -/
def lgOpen (n : List UInt8) (most : Int) (b : List UInt8) (f k : Nat) : Lg := { lgOf n most 0 b f k with sure := lastF (lgOf n most 0 b f k) }
section
variable {W w : World} {dp : Nat} {X : List Asn} {n b : List UInt8} {most r : Int} {s f k : Nat}
set_option maxRecDepth 20000 in
set_option maxHeartbeats 8000000 in
theorem open1_c (h : St W w (aDisk dp (dF n b s r) :: X)) (hm : mayN n most = true) (hn : n.length ≤ 4194304) (hb : b.length ≤ 4194304) (hh : headOf b = some (f, k)) :
    Calls Tryz.prog 18 #[.pointer (some ⟨dp, 0, none⟩), .string (bstr n), .int .i64 most] w fun e w' => ∃ p, e = .returned (.tuple #[.pointer (some ⟨p, 0, none⟩), .int .i64 0]) ∧ St W w' (aLg p dp (lgOpen n most b f k) :: aDisk dp (dF n (mendF b k) (mendF b k).length r) :: X) := by
  have HC := Lib.hid (clone_c h (fun x hx => by
    simp only [dF, List.mem_cons, List.not_mem_nil, or_false] at hx
    subst hx
    simp [file1]; unfold maxLen; omega))
  have HM := Lib.hid (fun w' => may_c w' (n := n) (m := most))
  have HNL := Lib.hid hn
  have HRS := Lib.hid (fun w' p Y (hS : St W w' (aBlk p 48 #[.pointer (some ⟨dp, 0, none⟩), .string (bstr n), .int .i64 most, .slice none 0 0, .int .i64 0] :: aDisk dp (dF n b s r) :: Y)) => reads_c hS hn hb hh)
  have HGE := Lib.hid (lgOfE (n := n) (most := most) (sure := 0) hh hb)
  have HGE2 := Lib.hid (show LgE (lgOpen n most b f k) from lgOfE (n := n) (most := most) (sure := 0) hh hb)
  obtain ⟨z, hz⟩ : ∃ z, lastF (lgOf n most 0 b f k) = z := ⟨_, rfl⟩
  have HZ := Lib.hid hz
  have HLO := Lib.hid (show lgOpen n most b f k = { lgOf n most 0 b f k with sure := z } by unfold lgOpen; rw [hz])
  rw [hm] at HM
  have LH := Lib.hid (fun w' p Y (hS : St W w' (aLg p dp (lgOf n most 0 b f k) :: Y)) => show Calls Tryz.prog 27 #[.pointer (some ⟨p, 0, none⟩)] w' fun e w'' => e = .returned (.int .i64 z) ∧ (∃ s c vL, St W w'' (lgL p dp (lgOf n most 0 b f k) s c vL ++ Y)) ∧ w''.cell? ⟨p, 4, none⟩ = some (.int .i64 0) ∧ w''.frozen? ⟨p, 4, none⟩ = false from by
    obtain ⟨s, c, vL, hE, h1⟩ := aLg.open_ hS
    refine (Llast_o h1 hE).mono ?_
    rintro e w'' ⟨rfl, hb⟩
    rw [HZ.out]
    have h2 := h1.later hb
    exact ⟨rfl, ⟨s, c, vL, h2⟩, (lgL.cells h2).2.2.2.2.1, (aBlk.get h2).frozen 4⟩)
  have HK := Lib.hid (fun w' p Y (hS : ∃ s c vL, St W w' (lgL p dp (lgOf n most 0 b f k) s c vL ++ Y)) => show St W (w'.setCell ⟨p, 4, none⟩ (.int .i64 z)) (aLg p dp (lgOpen n most b f k) :: Y) from by
    obtain ⟨s, c, vL, h1⟩ := hS
    have h2 := aBlk.set h1 4 (.int .i64 z)
    rw [HLO.out]
    exact aLg.shut (by rw [← HLO.out]; exact HGE2.out) h2)
  clear h hm hn hb hh hz
  go_enter Tryz.func18, Tryz.ntmps18
  go_wp2_with (first
    | (go_at_call 50; (with_reducible refine HC.out.mono ?_); rintro e w1 ⟨c, rfl, hS⟩; have H1 := Lib.hid hS.drop; clear hS)
    | (go_at_call 51; (with_reducible refine (offD_c H1.out).mono ?_); rintro e w2 ⟨rfl, rfl⟩; rw [show (dF n b s r).off = false from rfl])
    | (go_at_call 52; (with_reducible refine (HM.out _).mono ?_); rintro e w3 ⟨rfl, hb⟩; have H3 := Lib.hid (aBlk.new (H1.out.later hb) 48 #[.pointer (some ⟨dp, 0, none⟩), .string (bstr n), .int .i64 most, .slice none 0 0, .int .i64 0]); clear hb)
    | (go_at_call 53; (with_reducible refine (numbers1 H3.out.swap HNL.out (b := b) (s := s) rfl).mono ?_); rintro e w4 ⟨g, c, rfl, hS⟩; have H4 := Lib.hid hS; have m0 := hS.rowN (j := 0) rfl; clear hS))
  go_loopw [51] (fun i wr => wr = w4 ∧ ∃ q : Nat, q ≤ 1 ∧ i = .int .i64 q) (fun i _ => 1 - (intOf i).toNat)
  case atStart => exact ⟨rfl, 0, by omega, rfl⟩
  case round =>
    obtain ⟨rfl, q, hq, rfl⟩ := hrel
    have hq2 : q = 0 ∨ q = 1 := by omega
    rcases hq2 with rfl | rfl
    · go_wp2_with fail
      go_roundw
      case rel => exact ⟨trivial, 1, by omega, by go_num⟩
      case measure => simp [intOf]
    · go_wp2_with fail
      go_loopw [66] (fun i wr2 => ∃ q : Nat, q ≤ 1 ∧ i = .int .i64 q ∧ Hid (q = 0 → wr2 = wr) ∧ Hid (q = 1 → St W wr2 (aLg w3.heap.size dp (lgOf n most 0 b f k) :: aDisk dp (dF n (mendF b k) (mendF b k).length r) :: aRow 3 1 (.slice (some ⟨g, 0, none⟩) 1 c) 1 [.int .i64 1] :: X))) (fun i _ => 1 - (intOf i).toNat)
      case atStart => exact ⟨0, by omega, rfl, fun _ => rfl, fun h => (by cases h)⟩
      case round =>
        obtain ⟨q, hq, rfl, HA, HB⟩ := hrel
        have hq2 : q = 0 ∨ q = 1 := by omega
        rcases hq2 with rfl | rfl
        · obtain rfl := HA.out rfl
          clear HA HB
          go_wp2_with (first
            | (go_at_call 55; (with_reducible refine (HRS.out _ _ _ H4.out.rot3.swap2).mono ?_); rintro e w5 ⟨rfl, hS⟩; have H5 := Lib.hid hS; clear hS))
          go_roundw
          case rel => exact ⟨_, _, _, _, _, _, _, _, _, _, _, _, _, _, _, _, _, _, _, _, _, _, ⟨1, by omega, by go_num, fun h => (by cases h), fun _ => H5.out⟩, rfl⟩
          case measure => simp [intOf]
        · have H5 := Lib.hid (HB.out rfl)
          clear HA HB m0
          go_wp2_with (first
            | (go_at_call 27; (with_reducible refine (LH.out _ _ _ H5.out).mono ?_); rintro e w6 ⟨rfl, hS, hc, hf⟩; have H6 := Lib.hid hS; clear hS))
          go_ret2
          exact ⟨_, rfl, (HK.out _ _ _ H6.out).rot3.drop⟩
end
end Go.Proofs.YtnpjfjgnhadmjaaGreatDoor

/- Get on a log with one segment. -/
namespace Go.Proofs.YtnpjfjgnhadmjaaGreatDoor
open Go.RowKit Go.Deep Go.Maps
set_option linter.unusedVariables false

section
variable {W w : World} {p dp : Nat} {X : List Asn} {g : Lg} {d : Dk} {b : List UInt8} {i : Nat}
theorem lt_of {α : Type} {L : List α} {i : Nat} {x : α} (h : L[i]? = some x) : i < L.length := by
  rcases Nat.lt_or_ge i L.length with h' | h'
  · exact h'
  · rw [List.getElem?_eq_none h'] at h; cases h
theorem aPl.at {v : Value} {M : List (List UInt8)} (h : St W w (aPl v M :: X)) {b : List UInt8} (hi : M[i]? = some b) : ∃ gl c u, v = .slice (some ⟨gl, 0, none⟩) M.length c ∧ w.cell? ⟨gl, i, none⟩ = some u ∧ Bs w u b := by
  obtain ⟨own, ⟨vs, ⟨h1, h2⟩, h3⟩, ho⟩ := h.get
  have hil : i < M.length := lt_of hi
  have hvl : vs.length = M.length := h3.1
  have hv : vs[i]? = some vs[i] := List.getElem?_eq_getElem (by omega)
  obtain ⟨r1, r2, r3⟩ := h3.2 i _ b hv hi
  obtain ⟨hl, A, cap, hs, _, _, hx⟩ := Rd.of_own h1
  rcases h1.2 with ⟨e1, e2⟩ | ⟨g', cap', cur, e1, _⟩
  · omega
  · refine ⟨g', cap', vs[i], e1, ?_, Bs.of_own r1 r2⟩
    rw [hs] at e1
    injection e1 with e3 e4 e5
    have := (hx _ e3).2 i _ hv
    rw [addr_at, Nat.zero_add] at this
    exact this
set_option maxRecDepth 20000 in
set_option maxHeartbeats 4000000 in
theorem Lget_c (h : St W w (aLg p dp g :: X)) (hi : g.L[i]? = some b) : Calls Tryz.prog 22 #[.pointer (some ⟨p, 0, none⟩), .int .i64 (g.first + (i : Int))] w fun e w' => ∃ v, e = .returned (.tuple #[v, .int .i64 0]) ∧ St W w' (aBy v b :: aLg p dp g :: X) := by
  have H0 := Lib.hid h
  obtain ⟨s, c, vL, hE, h⟩ := aLg.open_ h
  have HN := Lib.hid (Lnone_o h)
  obtain ⟨gl, cL, u, rfl, ku, hub⟩ := aPl.at (St.rot3 h) hi
  have HS := Lib.hid (fun w' => segLast_c (g := g) w' hE (A := some ⟨gl, 0, none⟩) (c' := cL))
  obtain ⟨_, _, _, m3, _, n0, n1, n2, n3⟩ := lgL.cells h
  have hil : i < g.L.length := lt_of hi
  have HUB := Lib.hid hub
  obtain ⟨h1, h2, h3⟩ := hE
  have HLF := Lib.hid (show lastF g = g.first + (g.L.length : Int) - 1 from rfl)
  obtain ⟨l, hl⟩ : ∃ l, g.L.length = l := ⟨_, rfl⟩
  rw [hl] at HS HLF hil h1 n2
  generalize g.first = f at *
  generalize g.n = n at *
  generalize g.size = sz at *
  obtain ⟨z, hz⟩ : ∃ z, lastF g = z := ⟨_, rfl⟩
  rw [hz] at HS HLF
  have q1 : f ≤ f + (i : Int) := by omega
  have q2 : f + (i : Int) ≤ z := by have := HLF.out; omega
  have q3 : f + (i : Int) - f = (i : Int) := by omega
  have q4 : (i : Int) < (l : Int) := by omega
  have q5 : wrap64 (i : Int) = (i : Int) := by unfold wrap64; omega
  have hAB : B w (w.alloc (.cells #[.int .i64 n, .int .i64 f, .slice (some ⟨gl, 0, none⟩) l cL, .int .i64 sz] 107)) := B.alloc' _ _
  have HAB := Lib.hid hAB
  have ku1 := hAB.cell ku
  clear h hi hub hl hz hAB
  go_enter Tryz.func22, Tryz.ntmps22
  go_wp2_with (first
    | (go_at_call 64; (with_reducible refine HN.out.mono ?_); rintro e w1 ⟨rfl, rfl⟩))
  go_loopw [15] (fun i wr => i = .int .i64 0 ∧ wr = w) (fun _ _ => 0)
  case atStart => exact ⟨rfl, rfl⟩
  case round =>
    obtain ⟨rfl, rfl⟩ := hrel
    go_wp2_with (first
      | (go_at_call 68; (with_reducible refine (HS.out _).mono ?_); rintro e w2 ⟨rfl, hb⟩; have HB2 := Lib.hid (HAB.out.trans hb); have ku2 := hb.cell ku1; have x1 := hb.cell ((Blk.new wr 107 #[.int .i64 n, .int .i64 f, .slice (some ⟨gl, 0, none⟩) l cL, .int .i64 sz]).cell 1); have x2 := hb.cell ((Blk.new wr 107 #[.int .i64 n, .int .i64 f, .slice (some ⟨gl, 0, none⟩) l cL, .int .i64 sz]).cell 2); simp at x1 x2; clear hb)
      | (go_at_call 69; (with_reducible refine (clone89 (HUB.out.later HB2.out)).mono ?_); rintro e w3 ⟨v3, rfl, r3, hb3⟩; have H3 := Lib.hid ((H0.out.later HB2.out).addRow hb3 r3); clear r3 hb3))
    go_ret2
    exact ⟨_, rfl, H3.out⟩
end
end Go.Proofs.YtnpjfjgnhadmjaaGreatDoor

/- 'begun': a record is there when the log is opened again. -/
namespace Go.Proofs.YtnpjfjgnhadmjaaGreatDoor
open Go.RowKit Go.Deep Go.Maps
set_option linter.unusedVariables false

def nLog : List UInt8 := [108, 111, 103]
theorem bLog : bstr nLog = ⟨#[108, 111, 103]⟩ := rfl
theorem mayLog (m : Int) (h : 64 ≤ m ∧ m ≤ 4194304) : mayN nLog m = true := by
  simp [mayN, nLog, goodC]; omega
theorem St.two (w : World) {W : World} {X : List Asn} (h : St W w X) : St W (w.alloc (.cells #[.int .u8 7, .int .u8 8] 5)) (aBy (.slice (some ⟨w.heap.size, 0, none⟩) 2 2) [7, 8] :: X) :=
  h.add (B.alloc' _ _) (A := aBy (.slice (some ⟨w.heap.size, 0, none⟩) 2 2) [7, 8]) (own := fun b => b = w.heap.size)
    ⟨⟨rfl, .inr ⟨_, 2, #[.int .u8 7, .int .u8 8], rfl, Nat.zero_le _, heap_alloc_new w _, Nat.le_refl _, by unfold maxLen; omega, rfl, rfl⟩⟩, fun g hg => by simpa [Value.ownBlock] using hg.symm⟩ (fun b e => by omega)
theorem lit78 (w : World) : Bs (w.alloc (.cells #[.int .u8 7, .int .u8 8] 5)) (.slice (some ⟨w.heap.size, 0, none⟩) 2 2) [7, 8] :=
  Bs.lit w _ [7, 8] 2 rfl rfl (by simp [big])
theorem St.deep {W w : World} {A : Asn} {Y X : List Asn} (h : St W w (Y ++ A :: X)) : St W w (A :: (Y ++ X)) := h.perm List.perm_middle
theorem enc1 : enc 1 = [1] := by rw [enc_lt (by omega)]; rfl
theorem frame78_len : (frameF [7, 8]).length = 7 := by
  unfold frameF bodyF
  rw [show ([7, 8] : List UInt8).length = 2 from rfl, enc_lt (by omega)]
  simp [le4]
theorem headOf_headF (x : List UInt8) : headOf (headF 1 ++ x) = some (1, 6) := by
  unfold headOf headF
  rw [unframe_frame (by rw [enc1]; simp)]
  have h1 := numS_put (d := 1) (most := 9007199254740992) (rest := []) (by omega) (by omega)
  rw [List.append_nil] at h1
  simp only
  rw [h1]
  simp only
  rw [if_pos ⟨rfl, by omega⟩]
  have : (frameF (enc 1)).length = 6 := head1_len
  rw [this]
theorem unframe_nil : unframeF [] = none := by
  simp [unframeF, bytesS, numS, numGo, takeS]
theorem frames_one {b : List UInt8} (h : b.length ≤ 524288) : framesF (frameF b) = [(b, (frameF b).length)] := by
  have h1 := unframe_frame (x := []) h
  rw [List.append_nil] at h1
  rw [framesF_some h1]
  simp only [List.drop_length]
  rw [framesF_none unframe_nil]
def fB : List UInt8 := headF 1 ++ frameF [7, 8]
theorem fB_len : fB.length = 13 := by unfold fB; rw [List.length_append, head1_len, frame78_len]
theorem fB_drop : fB.drop 6 = frameF [7, 8] := by
  unfold fB
  rw [← head1_len, List.drop_left]
theorem fB_frames : framesF (fB.drop 6) = [([7, 8], 7)] := by
  rw [fB_drop, frames_one (by simp), frame78_len]
theorem fB_log : lgOpen nLog 64 fB 1 6 = ⟨nLog, 64, 1, 1, 1, 13, [[7, 8]]⟩ := by
  unfold lgOpen lgOf lastF
  rw [fB_frames]
  rfl
section
variable {W w : World} {p dp : Nat} {g : Lg} {X : List Asn}
theorem Llast_c (h : St W w (aLg p dp g :: X)) : Calls Tryz.prog 27 #[.pointer (some ⟨p, 0, none⟩)] w fun e w' => e = .returned (.int .i64 (lastF g)) ∧ B w w' := by
  obtain ⟨s, c, vL, hE, h1⟩ := aLg.open_ h
  exact Llast_o h1 hE
theorem Lsynced_c (h : St W w (aLg p dp g :: X)) : Calls Tryz.prog 28 #[.pointer (some ⟨p, 0, none⟩)] w fun e w' => e = .returned (.int .i64 g.sure) ∧ w = w' := by
  obtain ⟨s, c, vL, hE, h1⟩ := aLg.open_ h
  exact Lsynced_o h1
end
set_option maxRecDepth 20000 in
set_option maxHeartbeats 8000000 in
theorem begun_c (w : World) : Calls Tryz.prog 12 #[] w fun e w' => e = .returned (.bool true) ∧ B w w' := by
  have HNW := Lib.hid (show Calls Tryz.prog 16 #[.int .i64 1000] w fun e w' => ∃ p, e = .returned (.tuple #[.pointer (some ⟨p, 0, none⟩), .int .i64 0]) ∧ St w w' [aDisk p dZero] from new_yes (k := 1000) (St.nil w) (by omega))
  have HO1 := Lib.hid (fun w' dp X (h : St w w' (aDisk dp dZero :: X)) => show Calls Tryz.prog 18 #[.pointer (some ⟨dp, 0, none⟩), .string ⟨#[108, 111, 103]⟩, .int .i64 64] w' fun e w'' => ∃ p, e = .returned (.tuple #[.pointer (some ⟨p, 0, none⟩), .int .i64 0]) ∧ St w w'' (aLg p dp (lg0 nLog 64 0) :: aDisk dp (dOne nLog (headF 1) 6) :: X) from
    open0_c (n := nLog) h (mayLog 64 (by omega)) (by simp [nLog]))
  have HAP := Lib.hid (fun w' p dp v X (h : St w w' (aLg p dp (lg0 nLog 64 0) :: aDisk dp (dOne nLog (headF 1) 6) :: aBy v [7, 8] :: X)) => show Calls Tryz.prog 21 #[.pointer (some ⟨p, 0, none⟩), v] w' fun e w'' => e = .returned (.tuple #[.int .i64 1, .int .i64 0]) ∧ St w w'' (aLg p dp ((lg0 nLog 64 0).add [7, 8]) :: aDisk dp (dF nLog fB 6 1000) :: aBy v [7, 8] :: X) from
    Lappend_c h (fun w' Y hS => hS.deep.byBs (by simp [big])) (by simp) rfl (.inl rfl) (by simp [lg0, nLog]) (bg1 nLog (headF 1) (frameF [7, 8]) 6 (by rw [head1_len, frame78_len]; omega)) (by simp [lg0]) (by simp [lg0]))
  have HO2 := Lib.hid (fun w' dp X (h : St w w' (aDisk dp (dF nLog fB 6 1000) :: X)) => show Calls Tryz.prog 18 #[.pointer (some ⟨dp, 0, none⟩), .string ⟨#[108, 111, 103]⟩, .int .i64 64] w' fun e w'' => ∃ p, e = .returned (.tuple #[.pointer (some ⟨p, 0, none⟩), .int .i64 0]) ∧ St w w'' (aLg p dp ⟨nLog, 64, 1, 1, 1, 13, [[7, 8]]⟩ :: X) from by
    have := open1_c (n := nLog) (f := 1) (k := 6) h (mayLog 64 (by omega)) (by simp [nLog]) (by rw [fB_len]; omega) (headOf_headF _)
    refine this.mono ?_
    rintro e w'' ⟨p, rfl, hS⟩
    rw [fB_log] at hS
    exact ⟨p, rfl, hS.drop2⟩)
  have HG := Lib.hid (fun w' p dp X (h : St w w' (aLg p dp ⟨nLog, 64, 1, 1, 1, 13, [[7, 8]]⟩ :: X)) => show Calls Tryz.prog 22 #[.pointer (some ⟨p, 0, none⟩), .int .i64 1] w' fun e w'' => ∃ v, e = .returned (.tuple #[v, .int .i64 0]) ∧ St w w'' (aBy v [7, 8] :: aLg p dp ⟨nLog, 64, 1, 1, 1, 13, [[7, 8]]⟩ :: X) from Lget_c (i := 0) h rfl)
  go_enter Tryz.func12, Tryz.ntmps12
  go_wp2_with (first
    | (go_at_call 16; (with_reducible refine HNW.out.mono ?_); rintro e w1 ⟨dp, rfl, hS⟩; have H1 := Lib.hid hS; clear hS HNW)
    | (go_at_call 18; (with_reducible refine (HO1.out _ _ _ H1.out).mono ?_); rintro e w2 ⟨p, rfl, hS⟩; have H2 := Lib.hid (St.two _ hS).rot3.rot3; clear hS HO1 H1)
    | (go_at_call 21; (with_reducible refine (HAP.out _ _ _ _ _ H2.out).mono ?_); rintro e w3 ⟨rfl, hS⟩; have H3 := Lib.hid hS.swap; clear hS HAP H2)
    | (go_at_call 18; (with_reducible refine (HO2.out _ _ _ H3.out).mono ?_); rintro e w4 ⟨m, rfl, hS⟩; have H4 := Lib.hid hS; clear hS HO2 H3)
    | (go_at_call 22; (with_reducible refine (HG.out _ _ _ _ H4.out).mono ?_); rintro e w5 ⟨v, rfl, hS⟩; have H5 := Lib.hid hS; clear hS HG H4)
    | (go_at_call 15; (with_reducible refine (equal68 ((H5.out.later (B.alloc' _ _)).byBs (by simp [big])) (lit78 _)).mono ?_); rintro e w6 ⟨rfl, rfl⟩; have H6 := Lib.hid (H5.out.later (B.alloc' _ (.cells #[.int .u8 7, .int .u8 8] 5))).drop; rw [show (([7, 8] : List UInt8) == [7, 8]) = true from rfl]; clear H5)
    | (go_at_call 27; (with_reducible refine (Llast_c H6.out).mono ?_); rintro e w7 ⟨rfl, hb⟩; have H7 := Lib.hid (H6.out.later hb); rw [show lastF ⟨nLog, 64, 1, 1, 1, 13, [[7, 8]]⟩ = 1 from rfl]; clear H6 hb)
    | (go_at_call_of 28 p; (with_reducible refine (Lsynced_c H7.out.swap).mono ?_); rintro e w8 ⟨rfl, rfl⟩; rw [show ((lg0 nLog 64 0).add [7, 8]).sure = 0 from rfl])
    | (go_at_call_of 28 m; (with_reducible refine (Lsynced_c H7.out).mono ?_); rintro e w9 ⟨rfl, rfl⟩))
  go_ret
  exact ⟨rfl, H7.out.b⟩
end Go.Proofs.YtnpjfjgnhadmjaaGreatDoor

/- The five package variables laid: a world for the witnesses. Arguments opened by the form's own reach. -/
namespace Go.Proofs.YtnpjfjgnhadmjaaGreatDoor
open Go.ChangeShapes Go.WideShapes Go.ChangeAt Go.RowKit Go.Deep
set_option linter.unusedVariables false

theorem bs_of_sized {H : Type} {enc : TypeId × Value → H} {P : Program} {w : World} {base : Nat} {held : Bool} {spare : Nat → Bool} {fuel : Nat} {t e : TypeId} {c : Value} {x : DataW H × List MemPlace} (ht : P.underlying t = some (.slice e)) (he : P.underlying e = some (.int .u8)) (hC : P.cellsOf e = 1) (h1 : P.bytesOf e = 1)
    (h : DataW.trod enc P w base spare held fuel t [c] = some x) (hw : ∀ n ∈ x.1.weights P t, n ≤ reachBytes) : ∃ bs, Bs w c bs := by
  refine bs_of_trod ht he hC h (fun len cap a hc => ?_)
  subst hc
  rcases open_slice ht h with ⟨h2, h3⟩ | ⟨a, len, cap, m, n, D, Pl, hcs, hb, hl, hm, hmm, rfl, hi⟩
  · simp at h2
    rw [h2.2.1]; simp [big]
  · simp at hcs
    obtain ⟨_, rfl, _⟩ := hcs
    have := hw ((len + (m - len)) * P.bytesOf e) (by simp [DataW.weights, ht])
    have hr := reachBytes_lt
    rw [h1] at this
    unfold big
    omega
theorem open_bs {H : Type} {enc : TypeId × Value → H} {P : Program} {w : World} {base : Nat} {held : Bool} {spare : Nat → Bool} {r : Reach} {b0 : Nat} {t e : TypeId} {v : Value} {d : DataW H} {p : List MemPlace} (ht : P.underlying t = some (.slice e)) (he : P.underlying e = some (.int .u8)) (hC : P.cellsOf e = 1) (h1 : P.bytesOf e = 1)
    (hv : Value.okWide P w r b0 t v) (h : DataW.Trod enc P w base spare held t v d p) (hw : ∀ n ∈ d.weights P t, n ≤ reachBytes) : ∃ bs, Bs w v bs := by
  obtain ⟨A, len, cap, rfl⟩ := okWide_slice ht hv
  obtain ⟨fuel, hf⟩ := h
  simp only [Value.cells] at hf
  exact bs_of_sized ht he hC h1 hf hw
def sSyntax : Array UInt8 := #[105, 110, 118, 97, 108, 105, 100, 32, 115, 121, 110, 116, 97, 120]
def sRange : Array UInt8 := #[118, 97, 108, 117, 101, 32, 111, 117, 116, 32, 111, 102, 32, 114, 97, 110, 103, 101]
def vPow : Array Value := #[.int .u64 1, .int .u64 10, .int .u64 100, .int .u64 1000, .int .u64 10000, .int .u64 100000, .int .u64 1000000, .int .u64 10000000, .int .u64 100000000, .int .u64 1000000000, .int .u64 10000000000, .int .u64 100000000000, .int .u64 1000000000000, .int .u64 10000000000000, .int .u64 100000000000000, .int .u64 1000000000000000, .int .u64 10000000000000000, .int .u64 100000000000000000, .int .u64 1000000000000000000, .int .u64 10000000000000000000]
def v32 : Array Value := #[.int .u8 0, .int .u8 1, .int .u8 28, .int .u8 2, .int .u8 29, .int .u8 14, .int .u8 24, .int .u8 3, .int .u8 30, .int .u8 22, .int .u8 20, .int .u8 15, .int .u8 25, .int .u8 17, .int .u8 4, .int .u8 8, .int .u8 31, .int .u8 27, .int .u8 13, .int .u8 23, .int .u8 21, .int .u8 19, .int .u8 16, .int .u8 7, .int .u8 26, .int .u8 12, .int .u8 18, .int .u8 6, .int .u8 11, .int .u8 5, .int .u8 10, .int .u8 9]
def v64 : Array Value := #[.int .u8 0, .int .u8 1, .int .u8 56, .int .u8 2, .int .u8 57, .int .u8 49, .int .u8 28, .int .u8 3, .int .u8 61, .int .u8 58, .int .u8 42, .int .u8 50, .int .u8 38, .int .u8 29, .int .u8 17, .int .u8 4, .int .u8 62, .int .u8 47, .int .u8 59, .int .u8 36, .int .u8 45, .int .u8 43, .int .u8 51, .int .u8 22, .int .u8 53, .int .u8 39, .int .u8 33, .int .u8 30, .int .u8 24, .int .u8 18, .int .u8 12, .int .u8 5, .int .u8 63, .int .u8 55, .int .u8 48, .int .u8 27, .int .u8 60, .int .u8 41, .int .u8 37, .int .u8 16, .int .u8 46, .int .u8 35, .int .u8 44, .int .u8 21, .int .u8 52, .int .u8 32, .int .u8 23, .int .u8 11, .int .u8 54, .int .u8 26, .int .u8 40, .int .u8 15, .int .u8 34, .int .u8 20, .int .u8 31, .int .u8 10, .int .u8 25, .int .u8 14, .int .u8 19, .int .u8 9, .int .u8 13, .int .u8 8, .int .u8 7, .int .u8 6]
/-- the settled world with two blocks more (the two errors' structs), the five variables holding what their initialisers lay -/
noncomputable def laidWorld (os : Os) : World :=
  let N := (World.settled Tryz.prog os).heap.size
  let w0 := World.holding Tryz.prog os ⟨#[.cells #[.string ⟨sSyntax⟩] 199, .cells #[.string ⟨sRange⟩] 199], #[], []⟩
  let put (h : Array Obj) (g : Nat) (cs : Array Value) : Array Obj := h.modify g fun
    | .cells _ t frozen => .cells cs t frozen
    | o => o
  let h0 := put (put w0.heap 0 #[.iface 197 (.pointer (some ⟨N, 0, none⟩))]) 1 #[.iface 197 (.pointer (some ⟨N + 1, 0, none⟩))]
  let h1 := put h0 2 vPow
  let h2 := put h1 3 v32
  let h3 := put h2 4 v64
  { w0 with heap := h3 }
noncomputable abbrev N0 : Nat := (World.settled Tryz.prog default).heap.size
set_option maxRecDepth 1000000 in
theorem laid_in (os : Os) (args : Array Value) : LaidIn Tryz.prog ((laidWorld os).forCall (fun _ _ => 0) ⟨#[], args, []⟩).memory Rows.walFramesRow.laid [3, 4, 2, 1, N0 + 1, 0, N0] :=
  LaidIn.of_run [3, 4, 2, 1, N0 + 1, 0, N0] 80 (by kernel_rfl) (by kernel_rfl) (by kernel_rfl) (by kernel_rfl)
theorem laid_met (os : Os) (args : Array Value) : laidMet Tryz.prog Rows.walFramesRow.laid ((laidWorld os).forCall (fun _ _ => 0) ⟨#[], args, []⟩).memory := (laid_in os args).met
theorem prog_own : ownKnob Tryz.prog.godebug = none := by kernel_rfl
theorem prog_laid : laidOutB Tryz.prog = true := by kernel_rfl
end Go.Proofs.YtnpjfjgnhadmjaaGreatDoor
