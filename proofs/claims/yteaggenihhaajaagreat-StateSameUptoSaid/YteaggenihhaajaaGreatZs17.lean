/- Lemmas and contracts, part 17. -/
import Derived.Test.YteaggenihhaajaaGreatZs16
import Derived.Lib.OthersKept
/- Names: op.Runes and op.Name are the plain 'runesF', 'nameF'. -/
namespace Go.Proofs.YteaggenihhaajaaGreat
open Go.RowKit Go.Deep
set_option linter.unusedVariables false

theorem width_pos (s : ByteArray) (pos : Nat) (h : pos < s.size) : 1 ≤ (Utf8.decode s pos).2 := by
  by_cases ha : (s[pos]'h).toNat < 128
  · rw [decode_ascii s pos h ha]
    exact Nat.le_refl _
  · exact (decode_high s pos h (by omega)).2
theorem runesGo_end (s : ByteArray) (k pos n : Nat) (h : ¬ pos < s.size) : runesGo s k pos n = some n := by
  cases k with
  | zero => rfl
  | succ k => simp [runesGo, h]
theorem bstr_size (s : List UInt8) : (bstr s).size = s.length := by simp [bstr, ByteArray.size]
set_option maxRecDepth 100000 in
set_option maxHeartbeats 4000000 in
theorem runes_c (w : World) (s : List UInt8) (hs : s.length ≤ 4194304) : Calls Tryz.prog 333 #[.string (bstr s)] w fun e w' => e = .returned (.int .i64 (runesF s : Int)) ∧ B w w' := by
  have HE := Lib.hid (show runesF s = (match runesGo (bstr s) (s.length + 1) 0 0 with | none => 0 | some n => if 16 < n then 0 else n) from rfl)
  have HZ := Lib.hid (bstr_size s)
  have HL := Lib.hid hs
  generalize hb : bstr s = b at *
  generalize runesF s = z at *
  clear hb hs
  go_enter Tryz.func333, Tryz.ntmps333
  go_wp2
  go_loopw [3, 5] (fun n _ wr => ∃ (pos fuel k : Nat), n = .int .i64 (k : Int) ∧ wr.heap[w.heap.size]? = some (.stringIter b pos) ∧ Hid (B w wr) ∧ Hid (runesGo b fuel pos k = runesGo b (s.length + 1) 0 0) ∧ b.size + 1 ≤ pos + fuel ∧ k ≤ pos ∧ k ≤ 4194304) (fun _ _ wr => b.size - wr.iterPos w.heap.size)
  case atStart =>
    refine ⟨0, s.length + 1, 0, rfl, ?_, B.alloc' _ _, rfl, by rw [HZ.out]; omega, Nat.le_refl _, by omega⟩
    exact World.iter_heap w b 0
  case round =>
    obtain ⟨pos, fuel, k, rfl, hit, HB, HG, hfu, hkp, hk⟩ := hrel
    have hsz : w.heap.size < wr.heap.size := (Array.getElem?_eq_some_iff.1 hit).1
    by_cases hp : pos < b.size
    · have hnx : ∀ ty, (Instr.next (.pointer (some ⟨w.heap.size, 0, none⟩)) true ty).run Tryz.prog wr = _ := fun ty => Lib.run_next_any_at wr w.heap.size b pos ty hit hp
      have hwd := width_pos b pos hp
      have hd1 := decode_le b pos
      have hit2 := Lib.iterAt_heap wr w.heap.size b pos (pos + (Utf8.decode b pos).2) hit
      have hbw2 := Lib.hid (show B w _ from Lib.below_iterAt HB.out (k := w.heap.size) (by omega) b (pos + (Utf8.decode b pos).2))
      obtain ⟨f, rfl⟩ : ∃ f, fuel = f + 1 := ⟨fuel - 1, by omega⟩
      have HD := Lib.hid (show runesGo b (f + 1) pos k = if badR (Utf8.decode b pos).1 then none else runesGo b f (pos + (Utf8.decode b pos).2) (k + 1) from by simp [runesGo, hp])
      have hkb : k + 1 ≤ 4194304 := by have := HL.out; have := HZ.out; omega
      generalize (Utf8.decode b pos).1 = r at *
      have hc : (r < 33) ∨ (33 ≤ r ∧ 127 ≤ r ∧ r ≤ 159) ∨ (33 ≤ r ∧ r < 127 ∧ r = 47) ∨ (33 ≤ r ∧ 127 ≤ r ∧ 159 < r ∧ r = 65533) ∨ (33 ≤ r ∧ r < 127 ∧ r ≠ 47) ∨ (33 ≤ r ∧ 127 ≤ r ∧ 159 < r ∧ r ≠ 65533) := by omega
      by_cases hbad : badR r = true
      · have HN := Lib.hid (show z = 0 from by rw [HE.out, ← HG.out, HD.out, if_pos hbad])
        have hc2 : (r < 33) ∨ (33 ≤ r ∧ 127 ≤ r ∧ r ≤ 159) ∨ (r = 47) ∨ (r = 65533) := by
          simp only [badR, Bool.or_eq_true, Bool.and_eq_true, decide_eq_true_eq] at hbad; omega
        clear hc hbad
        rcases hc2 with h1 | ⟨h1, h2, h3⟩ | h1 | h1
        · have g1 : (r : Int) < 33 := by omega
          clear h1
          go_wp2
          go_ret
          exact ⟨by rw [HN.out]; rfl, hbw2.out⟩
        · have g1 : ¬ (r : Int) < 33 := by omega
          have g2 : (127 : Int) ≤ r := by omega
          have g3 : (r : Int) ≤ 159 := by omega
          clear h1 h2 h3
          go_wp2
          go_ret
          exact ⟨by rw [HN.out]; rfl, hbw2.out⟩
        all_goals
          subst h1
          go_wp2
          go_ret
          exact ⟨by rw [HN.out]; rfl, hbw2.out⟩
      · have HR := Lib.hid (show runesGo b f (pos + (Utf8.decode b pos).2) (k + 1) = runesGo b (s.length + 1) 0 0 from by rw [← HG.out, HD.out, if_neg hbad])
        have hc2 : (33 ≤ r ∧ r < 127 ∧ r ≠ 47) ∨ (33 ≤ r ∧ 127 ≤ r ∧ 159 < r ∧ r ≠ 65533) := by
          simp only [badR, Bool.or_eq_true, Bool.and_eq_true, decide_eq_true_eq] at hbad; omega
        clear hc hbad
        rcases hc2 with ⟨h1, h2, h3⟩ | ⟨h1, h2, h3, h4⟩
        · have g1 : ¬ (r : Int) < 33 := by omega
          have g2 : ¬ (127 : Int) ≤ r := by omega
          have g3 : ((r : Int) == 47) = false := by simp; omega
          have g4 : ((r : Int) == 65533) = false := by simp; omega
          clear h1 h2 h3
          go_wp2
          go_roundw
          case rel => exact ⟨pos + (Utf8.decode b pos).2, f, k + 1, by go_num, hit2, hbw2.out, HR.out, by omega, by omega, hkb⟩
          case measure => simp only [World.iterPos, hit2, hit]; omega
        · have g1 : ¬ (r : Int) < 33 := by omega
          have g2 : (127 : Int) ≤ r := by omega
          have g5 : ¬ (r : Int) ≤ 159 := by omega
          have g3 : ((r : Int) == 47) = false := by simp; omega
          have g4 : ((r : Int) == 65533) = false := by simp; omega
          clear h1 h2 h3 h4
          go_wp2
          go_roundw
          case rel => exact ⟨pos + (Utf8.decode b pos).2, f, k + 1, by go_num, hit2, hbw2.out, HR.out, by omega, by omega, hkb⟩
          case measure => simp only [World.iterPos, hit2, hit]; omega
    · have hnx : ∀ ty, (Instr.next (.pointer (some ⟨w.heap.size, 0, none⟩)) true ty).run Tryz.prog wr = _ := fun ty => Lib.run_next_end_at wr w.heap.size b pos ty hit hp
      have HN := Lib.hid (show z = if 16 < k then 0 else k from by rw [HE.out, ← HG.out, runesGo_end b fuel pos k hp])
      by_cases h16 : 16 < k
      · have g1 : (16 : Int) < k := by omega
        rw [if_pos h16] at HN
        clear h16
        go_wp2
        go_ret
        exact ⟨by rw [HN.out]; rfl, HB.out⟩
      · have g1 : ¬ (16 : Int) < k := by omega
        rw [if_neg h16] at HN
        clear h16
        go_wp2
        go_ret
        exact ⟨by simp [HN.out], HB.out⟩
theorem name_c (w : World) (s : List UInt8) (hs : s.length ≤ 4194304) : Calls Tryz.prog 320 #[.string (bstr s)] w fun e w' => e = .returned (.bool (nameF s)) ∧ B w w' := by
  have HR := Lib.hid (runes_c w s hs)
  clear hs
  have HN := Lib.hid (show nameF s = decide (0 < runesF s) from rfl)
  generalize nameF s = z at *
  generalize runesF s = n at *
  by_cases h : 0 < n
  · have g : (0 : Int) < n := by omega
    rw [decide_eq_true h] at HN
    clear h
    go_enter Tryz.func320, Tryz.ntmps320
    go_wp2_with (first | (go_at_call 333; (with_reducible refine HR.out.mono ?_); rintro e w1 ⟨rfl, hb⟩; have HB := Lib.hid hb; clear hb))
    go_ret
    exact ⟨by simp [HN.out]; omega, HB.out⟩
  · have g : ¬ (0 : Int) < n := by omega
    rw [decide_eq_false h] at HN
    clear h
    go_enter Tryz.func320, Tryz.ntmps320
    go_wp2_with (first | (go_at_call 333; (with_reducible refine HR.out.mono ?_); rintro e w1 ⟨rfl, hb⟩; have HB := Lib.hid hb; clear hb))
    go_ret
    exact ⟨by simp [HN.out]; omega, HB.out⟩
end Go.Proofs.YteaggenihhaajaaGreat

/- From contracts over data back to contracts over readings; what yields new bytes. -/
namespace Go.Proofs.YteaggenihhaajaaGreat
open Go.RowKit
set_option linter.unusedVariables false

/-- data lie in blocks that are -/
theorem Dr.lt [Old] {I : Nat → Prop} {w : World} {v : Value} {d : D} (h : Dr I w v d) : Dr (fun b => I b ∧ b < w.heap.size) w v d := by
  induction h with
  | bool b => exact .bool b
  | int k n => exact .int k n
  | str s => exact .str s
  | nils => exact .nils
  | nilp => exact .nilp
  | nilf => exact .nilf
  | nilm => exact .nilm
  | list A cap n l xs U hl0 hl hm hnone hlen hA h1 hU ih =>
    exact .list A cap n l xs U hl0 hl hm hnone hlen (fun h0 => by
      obtain ⟨b, off, e, k1, k2, k3⟩ := hA h0
      exact ⟨b, off, e, k1, ⟨k2, k1⟩, k3⟩) h1 ih
  | own A cap n l xs U hl0 hl hm hnone hlen hA h1 hU ih =>
    exact .own A cap n l xs U hl0 hl hm hnone hlen (fun h0 => by
      obtain ⟨b, off, e, k1, k2, k3⟩ := hA h0
      exact ⟨b, off, e, k1, ⟨k2, k1⟩, k3⟩) h1 ih
  | ref b off cs U hI hb hc h1 hU ih => exact .ref b off cs U ⟨hI, hb⟩ hb hc h1 ih
  | agg vs ds hl h1 h ih => exact .agg vs ds hl h1 ih
  | tup vs ds hl h ih => exact .tup vs ds hl ih
  | fn f n vs ds hl h ih => exact .fn f n vs ds hl ih
theorem Drs.lt [Old] {I : Nat → Prop} {w : World} {vs : List Value} {ds : List D} (h : Drs I w vs ds) : Drs (fun b => I b ∧ b < w.heap.size) w vs ds :=
  ⟨h.1, fun i v d h1 h2 => (h.2 i v d h1 h2).lt⟩
/-- what a function that only computes answers, over data -/
theorem FnP.calls [Wd] {P : Program} {f : FuncId} {ar : List D} {r : D} (hF : FnP P f ar r) {I : Nat → Prop} {w : World} {vs : List Value} (hd : Drs I w vs ar) (hW : Wd.W (fun b => I b ∧ b < w.heap.size) w) :
    Calls P f vs.toArray w fun e w' => ∃ v I', e = .returned v ∧ B w w' ∧ Vr I' [] w' v r ∧ (∀ b, I' b → (I b ∧ b < w.heap.size) ∨ w.heap.size ≤ b) ∧ ∀ b, I' b → b < w'.heap.size := by
  have hd' := hd.lt
  have hD : Den (fun b => I b ∧ b < w.heap.size) [] w [] := ⟨rfl, fun b h => h.2, fun o ao p h => by simp at h, fun o ao p b h => by simp at h, fun o o' ao ao' p p' b h => by simp at h⟩
  have hn : ∀ b, ¬ Owned [] [] b := fun b ⟨o, ao, p, h, _⟩ => by simp at h
  refine (hF.2 w _ [] vs hW hD ⟨hd'.1, fun i v d h1 h2 => .rd (hd'.2 i v d h1 h2)⟩).mono ?_
  rintro e w' ⟨v, I', g', r', h', rfl, ⟨rfl, rfl⟩, hD', hv, hx, i1, i2, ow, gk⟩
  have hg : g' = [] := List.eq_nil_of_length_eq_zero hD'.len
  subst hg
  refine ⟨v, I', rfl, hx.to_B (fun b _ ho => hn b ho), hv, fun b hb => ?_, hD'.inn⟩
  rcases i2 b hb with k | k | k
  · exact .inl k
  · exact absurd k (hn b)
  · exact .inr k
theorem FnP.callsBool [Wd] {P : Program} {f : FuncId} {ar : List D} {n : Bool} (hF : FnP P f ar (.bool n)) {I : Nat → Prop} {w : World} {vs : List Value} (hd : Drs I w vs ar) (hW : Wd.W (fun b => I b ∧ b < w.heap.size) w) :
    Calls P f vs.toArray w fun e w' => e = .returned (.bool n) ∧ B w w' :=
  (hF.calls hd hW).mono (by
    rintro e w' ⟨v, I', rfl, hb, hv, _⟩
    exact ⟨by rw [hv.bool_inv], hb⟩)
end Go.Proofs.YteaggenihhaajaaGreat

/- Which operations, messages and acts are the same, over readings. -/
namespace Go.Proofs.YteaggenihhaajaaGreat
open Go.RowKit
set_option linter.unusedVariables false

theorem Lk.arg2 [Old] {α : Type} {T : Ty α} {A : Dt α} (L : Lk T A) {inn inn' : Nat → Prop} {w : World} {cs ds : List Value} {a b : α} (h : T.rd inn w cs a) (k : T.rd inn' w ds b) : Drs (fun g => inn g ∨ inn' g) w [.agg cs.toArray, .agg ds.toArray] [.agg (A.c a), .agg (A.c b)] := by
  obtain ⟨h1, _, h3⟩ := L.to (T.mono (inn' := fun g => inn g ∨ inn' g) h (fun g hg => .inl hg))
  obtain ⟨k1, _, k3⟩ := L.to (T.mono (inn' := fun g => inn g ∨ inn' g) k (fun g hg => .inr hg))
  exact (Drs.one (.agg cs _ h1.1 h3 h1.2)).append (Drs.one (.agg ds _ k1.1 k3 k1.2))
section
variable {inn inn' : Nat → Prop} {w : World} {cs ds : List Value}
theorem oSame_c {a b : OpD} (h : tOp.rd inn w cs a) (k : tOp.rd inn' w ds b) : Calls Tryz.prog 133 #[.agg cs.toArray, .agg ds.toArray] w fun e w' => e = .returned (.bool (sameOp a b)) ∧ B w w' := by
  rw [sameOp_eqB]
  exact (oSame_s a b (LkOp.to h).2.1 (LkOp.to k).2.1).callsBool (LkOp.arg2 h k) trivial
end
end Go.Proofs.YteaggenihhaajaaGreat

/- Operations: what may be (op.Check). -/
namespace Go.Proofs.YteaggenihhaajaaGreat
open Go.RowKit Go.Deep
set_option linter.unusedVariables false

theorem chk1_c {w : World} {v : Value} {a : List UInt8} (h : Bs w v a) : Calls Tryz.prog 330 #[v] w fun e w' => e = .returned (.bool (decide (64 < a.length))) ∧ w = w' := by
  obtain ⟨A, c, rfl⟩ := h.rd.slice
  have hl := h.len
  have hl2 : (a.length : Int) ≤ 9223372036854775807 := by unfold big at hl; omega
  clear h hl
  generalize a.length = n at *
  by_cases hn : 64 < n
  · have g : (64 : Int) < n := by omega
    have E := Lib.hid (decide_eq_true hn)
    clear hn
    go_enter Tryz.func330, Tryz.ntmps330
    go_wp2
    go_ret
    exact ⟨by simp [E.out], rfl⟩
  · have g : ¬ (64 : Int) < n := by omega
    have E := Lib.hid (decide_eq_false hn)
    clear hn
    go_enter Tryz.func330, Tryz.ntmps330
    go_wp2
    go_ret
    exact ⟨by simp [E.out], rfl⟩
set_option maxRecDepth 20000 in
set_option maxHeartbeats 2000000 in
theorem index_c {inn : Nat → Prop} {w : World} {v : Value} {s : List (List UInt8)} (h : (tL tY).rd inn w [v] s) :
    Calls Tryz.prog 335 #[v, .func (.func 330) #[] #[]] w fun e w' => ∃ k : Int, e = .returned (.int .i64 k) ∧ decide (0 ≤ k) = (s.any fun r => decide (64 < r.length)) ∧ w = w' := by
  obtain ⟨A, c, e1, hs⟩ := tL.slice h
  injection e1 with e1 _
  subst e1
  have HR := Lib.hid h
  obtain ⟨l, hl0⟩ : ∃ l, s.length = l := ⟨_, rfl⟩
  have HL0 := Lib.hid hl0
  rw [hl0] at hs ⊢
  clear h hl0
  go_enter Tryz.func335, Tryz.ntmps335
  go_wp2_with fail
  go_loop [5, 8] (fun _ i => ∃ q : Nat, q ≤ l ∧ i = .int .i64 q ∧ Hid (∀ j x, j < q → s[j]? = some x → ¬ 64 < x.length)) (fun _ i => l - (intOf i).toNat)
  case atStart => exact ⟨0, Nat.zero_le _, rfl, fun j x h => by omega⟩
  case round =>
    obtain ⟨q, hq, rfl, HP⟩ := hrel
    by_cases hlt : q < l
    · obtain ⟨x, hx⟩ : ∃ x, s[q]? = some x := ⟨_, List.getElem?_eq_getElem (by have := HL0.out; omega)⟩
      obtain ⟨_, b, off, cs, rfl, r1, k1⟩ := tL.at HR.out hx
      obtain ⟨u1, rfl⟩ := len1 (tY.len r1)
      have c1 := k1 0 _ rfl
      simp only [show tY.n = 1 from rfl, Nat.mul_one, Nat.add_zero] at c1
      have HC := Lib.hid (chk1_c (tY.bs r1))
      have HS := Lib.hid hx
      have hqi : (q : Int) < l := by omega
      clear r1 k1 hx
      by_cases e1 : 64 < x.length
      · rw [decide_eq_true e1] at HC
        have E := Lib.hid (show decide ((0 : Int) ≤ q) = (s.any fun r => decide (64 < r.length)) from by
          rw [decide_eq_true (by omega : (0 : Int) ≤ q)]
          symm
          rw [List.any_eq_true]
          exact ⟨x, List.mem_of_getElem? HS.out, decide_eq_true e1⟩)
        clear e1
        go_wp2_with (first | (go_at_call 330; (with_reducible refine HC.out.mono ?_); rintro e w1 ⟨rfl, rfl⟩))
        go_ret
        exact ⟨_, rfl, E.out, rfl⟩
      · rw [decide_eq_false e1] at HC
        have E := Lib.hid e1
        clear e1
        go_wp2_with (first | (go_at_call 330; (with_reducible refine HC.out.mono ?_); rintro e w1 ⟨rfl, rfl⟩))
        go_round
        case rel => exact ⟨q + 1, by omega, by go_num, fun j y hj hy => by
          by_cases e : j = q
          · rw [e, HS.out] at hy; injection hy with hy; rw [← hy]; exact E.out
          · exact HP.out j y (by omega) hy⟩
        case measure => simp [intOf]; omega
    · have hqi : ¬ (q : Int) < l := by omega
      have E := Lib.hid (show decide ((0 : Int) ≤ -1) = (s.any fun r => decide (64 < r.length)) from by
        rw [decide_eq_false (by omega : ¬ (0 : Int) ≤ -1)]
        symm
        rw [List.any_eq_false]
        intro x hx
        obtain ⟨j, hj⟩ := List.getElem?_of_mem hx
        have hjl : j < s.length := by
          rcases Nat.lt_or_ge j s.length with h' | h'
          · exact h'
          · rw [List.getElem?_eq_none h'] at hj; cases hj
        simpa using HP.out j x (by have := HL0.out; omega) hj)
      go_wp2_with fail
      go_ret
      exact ⟨_, rfl, E.out, rfl⟩
theorem contains_c {inn : Nat → Prop} {w : World} {v : Value} {s : List (List UInt8)} (h : (tL tY).rd inn w [v] s) :
    Calls Tryz.prog 331 #[v, .func (.func 330) #[] #[]] w fun e w' => e = .returned (.bool (s.any fun r => decide (64 < r.length))) ∧ w = w' := by
  have HI := Lib.hid (index_c h)
  clear h
  generalize (s.any fun r => decide (64 < r.length)) = z at *
  go_enter Tryz.func331, Tryz.ntmps331
  go_wp2_with (first | (go_at_call 335; (with_reducible refine HI.out.mono ?_); rintro e w1 ⟨k, rfl, hk, rfl⟩; rcases (show (z = true ∧ 0 ≤ k) ∨ (z = false ∧ ¬ 0 ≤ k) from by cases z <;> simp at hk <;> simp <;> omega) with ⟨rfl, hk2⟩ | ⟨rfl, hk2⟩))
  all_goals
    go_ret
    exact ⟨by simp, rfl⟩
theorem Blk.new2 (w : World) (o : Obj) (t : TypeId) (cs : Array Value) : Blk ((w.alloc o).alloc (.cells cs t)) (w.heap.size + 1) t cs := by simpa using Blk.new (w.alloc o) t cs
/-- a function whose results are a cell's row and a slot ends -/
theorem post_cell_tmp {P : Program} {fn : Func} {R : Ending → World → Prop} {a : Act} {w : World} {p u : Tmp} {ty t : TypeId} {g : Nat} {cs : Array Value} {d : TypeDesc} (h : fn.results = #[.cell p ty, .tmp u])
    (hp : a.tmps.getD p undef = .pointer (some ⟨g, 0, none⟩)) (hg : Blk w g t cs) (hu : P.underlying ty = some d) (hd : (match d with | .struct _ | .array _ _ => true | _ => false) = true) (hi : (P.info? ty).map (·.size) = some cs.size)
    (hdf : a.defers = []) (hR : R (.returned (.tuple #[.agg cs, a.tmps.getD u undef])) w) : bodyPost P fn R .ret a w := by
  refine bodyPost_ret (v := .tuple #[.agg cs, a.tmps.getD u undef]) ?_ hdf hR
  rw [results_cell_tmp h, hp]
  simp only [asAddr, Sem.run_pure, Result.andThen]
  rw [run_loadVar_row (P := P) w g t ty cs (0, 0) d hg hu hd hi]
set_option maxRecDepth 20000 in
set_option maxHeartbeats 4000000 in
theorem only_c {inn : Nat → Prop} {w : World} {cs : List Value} {a : OpD} (h : tOp.rd inn w cs a) :
    Calls Tryz.prog 329 #[.agg cs.toArray] w fun e w' => ∃ ds : List Value, e = .returned (.tuple #[.agg ds.toArray, .bool (kindOk a)]) ∧ tOp.rd inn w' ds (onlyF a) ∧ B w w' := by
  obtain ⟨v5, rfl, a1, a2, a3, a4, a5⟩ := tOp.parts h
  obtain ⟨kind, topic, group, offset, records⟩ := a
  simp only at *
  have H2 := Lib.hid a2
  have H3 := Lib.hid a3
  have H4 := Lib.hid a4
  have H5 := Lib.hid (fun w' (hb : B w w') => (tL tY).later a5 hb)
  have HN := Lib.hid (fun w' => show (tL tY).rd inn w' [.slice none 0 0] [] from ⟨none, 0, rfl, Nat.le_refl _, by unfold maxLen; omega, fun _ => ⟨rfl, rfl⟩, by simp, fun h0 => by simp at h0⟩)
  have hc : kind = 0 ∨ kind = 1 ∨ kind = 2 ∨ kind = 3 ∨ kind = 4 ∨ (kind < 0 ∨ 4 < kind) := by omega
  obtain ⟨A5, c5, e5, _⟩ := tL.slice a5
  injection e5 with e5 _
  subst e5
  clear h a2 a3 a4 a5
  rcases hc with rfl | rfl | rfl | rfl | rfl | hc
  · clear a1
    go_enter Tryz.func329, Tryz.ntmps329
    go_wp2
    exact post_cell_tmp rfl rfl ((Blk.new2 _ _ _ _).alloc _) Tryz.underlying80 rfl (by kernel_rfl) rfl ⟨_, rfl, tOp.mk (s := ⟨0, [], [], 0, []⟩) (by simp only; omega) (by simp) (by simp) (by simp) (HN.out _), BB.out⟩
  · clear a1
    go_enter Tryz.func329, Tryz.ntmps329
    go_wp2
    exact post_cell_tmp rfl rfl ((Blk.new2 _ _ _ _).alloc _) Tryz.underlying80 rfl (by kernel_rfl) rfl ⟨_, rfl, tOp.mk (s := ⟨1, topic, [], 0, []⟩) (by simp only; omega) H2.out (by simp) (by simp) (HN.out _), BB.out⟩
  · clear a1
    go_enter Tryz.func329, Tryz.ntmps329
    go_wp2
    go_region_with (fail)
    all_goals
      go_wp2
      exact post_cell_tmp rfl rfl ((Blk.new2 _ _ _ _).alloc _) Tryz.underlying80 rfl (by kernel_rfl) rfl ⟨_, rfl, tOp.mk (s := ⟨2, topic, [], 0, records⟩) (by simp only; omega) H2.out (by simp) (by simp) (H5.out _ BB.out), BB.out⟩
  · clear a1
    go_enter Tryz.func329, Tryz.ntmps329
    go_wp2
    go_region_with (fail)
    all_goals
      go_wp2
      exact post_cell_tmp rfl rfl ((Blk.new2 _ _ _ _).alloc _) Tryz.underlying80 rfl (by kernel_rfl) rfl ⟨_, rfl, tOp.mk (s := ⟨3, topic, group, offset, []⟩) (by simp only; omega) H2.out H3.out H4.out (HN.out _), BB.out⟩
  · clear a1
    go_enter Tryz.func329, Tryz.ntmps329
    go_wp2
    go_region_with (fail)
    all_goals
      go_wp2
      exact post_cell_tmp rfl rfl ((Blk.new2 _ _ _ _).alloc _) Tryz.underlying80 rfl (by kernel_rfl) rfl ⟨_, rfl, tOp.mk (s := ⟨4, topic, [], offset, []⟩) (by simp only; omega) H2.out (by simp) H4.out (HN.out _), BB.out⟩
  · have g0 : (kind == 0) = false := by simp; omega
    have g1 : (kind == 1) = false := by simp; omega
    have g2 : (kind == 2) = false := by simp; omega
    have g3 : (kind == 3) = false := by simp; omega
    have g4 : (kind == 4) = false := by simp; omega
    have HA := Lib.hid a1
    have EK := Lib.hid (show kindOk ⟨kind, topic, group, offset, records⟩ = false from decide_eq_false (by simp only; omega))
    have EO := Lib.hid (show onlyF ⟨kind, topic, group, offset, records⟩ = ⟨kind, [], [], 0, []⟩ from by unfold onlyF; simp only; rw [if_neg (by omega), if_neg (by omega), if_neg (by omega), if_neg (by omega)])
    clear hc a1
    go_enter Tryz.func329, Tryz.ntmps329
    go_wp2
    refine post_cell_tmp rfl rfl ((Blk.new2 _ _ _ _).alloc _) Tryz.underlying80 rfl (by kernel_rfl) rfl ?_
    rw [EK.out, EO.out]
    exact ⟨_, rfl, tOp.mk (s := ⟨kind, [], [], 0, []⟩) HA.out (by simp) (by simp) (by simp) (HN.out _), BB.out⟩
end Go.Proofs.YteaggenihhaajaaGreat
