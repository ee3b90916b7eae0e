/- Lemmas and contracts, part 17. -/
import Derived.Test.YtafomdobfmmleaaGreatDoorZb16
import Derived.Lib.OthersKept
/- Names: op.Runes and op.Name are the plain 'runesF', 'nameF'. -/
namespace Go.Proofs.YtafomdobfmmleaaGreatDoor
open Go.RowKit Go.Deep
set_option linter.unusedVariables false

theorem width_pos (s : ByteArray) (pos : Nat) (h : pos < s.size) : 1 ≤ (Utf8.decode s pos).2 := by
  by_cases ha : (s[pos]'h).toNat < 128
  · rw [decode_ascii s pos h ha]
    exact Nat.le_refl _
  · exact (decode_high s pos h (by omega)).2
theorem runesGo_end (s : ByteArray) (k pos n : Nat) (h : ¬ pos < s.size) : runesGo s k pos n = some n := by
  cases k with
  | zero => rfl
  | succ k => simp [runesGo, h]
theorem bstr_size (s : List UInt8) : (bstr s).size = s.length := by simp [bstr, ByteArray.size]
set_option maxRecDepth 100000 in
set_option maxHeartbeats 4000000 in
theorem runes_c (w : World) (s : List UInt8) (hs : s.length ≤ 4194304) : Calls Tryz.prog 59 #[.string (bstr s)] w fun e w' => e = .returned (.int .i64 (runesF s : Int)) ∧ B w w' := by
  have HE := Lib.hid (show runesF s = (match runesGo (bstr s) (s.length + 1) 0 0 with | none => 0 | some n => if 16 < n then 0 else n) from rfl)
  have HZ := Lib.hid (bstr_size s)
  have HL := Lib.hid hs
  generalize hb : bstr s = b at *
  generalize runesF s = z at *
  clear hb hs
  go_enter Tryz.func59, Tryz.ntmps59
  go_wp2
  go_loopw [3, 5] (fun n _ wr => ∃ (pos fuel k : Nat), n = .int .i64 (k : Int) ∧ wr.heap[w.heap.size]? = some (.stringIter b pos) ∧ Hid (B w wr) ∧ Hid (runesGo b fuel pos k = runesGo b (s.length + 1) 0 0) ∧ b.size + 1 ≤ pos + fuel ∧ k ≤ pos ∧ k ≤ 4194304) (fun _ _ wr => b.size - wr.iterPos w.heap.size)
  case atStart =>
    refine ⟨0, s.length + 1, 0, rfl, ?_, B.alloc' _ _, rfl, by rw [HZ.out]; omega, Nat.le_refl _, by omega⟩
    exact World.iter_heap w b 0
  case round =>
    obtain ⟨pos, fuel, k, rfl, hit, HB, HG, hfu, hkp, hk⟩ := hrel
    have hsz : w.heap.size < wr.heap.size := (Array.getElem?_eq_some_iff.1 hit).1
    by_cases hp : pos < b.size
    · have hnx : ∀ ty, (Instr.next (.pointer (some ⟨w.heap.size, 0, none⟩)) true ty).run Tryz.prog wr = _ := fun ty => Lib.run_next_any_at wr w.heap.size b pos ty hit hp
      have hwd := width_pos b pos hp
      have hd1 := decode_le b pos
      have hit2 := Lib.iterAt_heap wr w.heap.size b pos (pos + (Utf8.decode b pos).2) hit
      have hbw2 := Lib.hid (show B w _ from Lib.below_iterAt HB.out (k := w.heap.size) (by omega) b (pos + (Utf8.decode b pos).2))
      obtain ⟨f, rfl⟩ : ∃ f, fuel = f + 1 := ⟨fuel - 1, by omega⟩
      have HD := Lib.hid (show runesGo b (f + 1) pos k = if badR (Utf8.decode b pos).1 then none else runesGo b f (pos + (Utf8.decode b pos).2) (k + 1) from by simp [runesGo, hp])
      have hkb : k + 1 ≤ 4194304 := by have := HL.out; have := HZ.out; omega
      generalize (Utf8.decode b pos).1 = r at *
      have hc : (r < 33) ∨ (33 ≤ r ∧ 127 ≤ r ∧ r ≤ 159) ∨ (33 ≤ r ∧ r < 127 ∧ r = 47) ∨ (33 ≤ r ∧ 127 ≤ r ∧ 159 < r ∧ r = 65533) ∨ (33 ≤ r ∧ r < 127 ∧ r ≠ 47) ∨ (33 ≤ r ∧ 127 ≤ r ∧ 159 < r ∧ r ≠ 65533) := by omega
      by_cases hbad : badR r = true
      · have HN := Lib.hid (show z = 0 from by rw [HE.out, ← HG.out, HD.out, if_pos hbad])
        have hc2 : (r < 33) ∨ (33 ≤ r ∧ 127 ≤ r ∧ r ≤ 159) ∨ (r = 47) ∨ (r = 65533) := by
          simp only [badR, Bool.or_eq_true, Bool.and_eq_true, decide_eq_true_eq] at hbad; omega
        clear hc hbad
        rcases hc2 with h1 | ⟨h1, h2, h3⟩ | h1 | h1
        · have g1 : (r : Int) < 33 := by omega
          clear h1
          go_wp2
          go_ret
          exact ⟨by rw [HN.out]; rfl, hbw2.out⟩
        · have g1 : ¬ (r : Int) < 33 := by omega
          have g2 : (127 : Int) ≤ r := by omega
          have g3 : (r : Int) ≤ 159 := by omega
          clear h1 h2 h3
          go_wp2
          go_ret
          exact ⟨by rw [HN.out]; rfl, hbw2.out⟩
        all_goals
          subst h1
          go_wp2
          go_ret
          exact ⟨by rw [HN.out]; rfl, hbw2.out⟩
      · have HR := Lib.hid (show runesGo b f (pos + (Utf8.decode b pos).2) (k + 1) = runesGo b (s.length + 1) 0 0 from by rw [← HG.out, HD.out, if_neg hbad])
        have hc2 : (33 ≤ r ∧ r < 127 ∧ r ≠ 47) ∨ (33 ≤ r ∧ 127 ≤ r ∧ 159 < r ∧ r ≠ 65533) := by
          simp only [badR, Bool.or_eq_true, Bool.and_eq_true, decide_eq_true_eq] at hbad; omega
        clear hc hbad
        rcases hc2 with ⟨h1, h2, h3⟩ | ⟨h1, h2, h3, h4⟩
        · have g1 : ¬ (r : Int) < 33 := by omega
          have g2 : ¬ (127 : Int) ≤ r := by omega
          have g3 : ((r : Int) == 47) = false := by simp; omega
          have g4 : ((r : Int) == 65533) = false := by simp; omega
          clear h1 h2 h3
          go_wp2
          go_roundw
          case rel => exact ⟨pos + (Utf8.decode b pos).2, f, k + 1, by go_num, hit2, hbw2.out, HR.out, by omega, by omega, hkb⟩
          case measure => simp only [World.iterPos, hit2, hit]; omega
        · have g1 : ¬ (r : Int) < 33 := by omega
          have g2 : (127 : Int) ≤ r := by omega
          have g5 : ¬ (r : Int) ≤ 159 := by omega
          have g3 : ((r : Int) == 47) = false := by simp; omega
          have g4 : ((r : Int) == 65533) = false := by simp; omega
          clear h1 h2 h3 h4
          go_wp2
          go_roundw
          case rel => exact ⟨pos + (Utf8.decode b pos).2, f, k + 1, by go_num, hit2, hbw2.out, HR.out, by omega, by omega, hkb⟩
          case measure => simp only [World.iterPos, hit2, hit]; omega
    · have hnx : ∀ ty, (Instr.next (.pointer (some ⟨w.heap.size, 0, none⟩)) true ty).run Tryz.prog wr = _ := fun ty => Lib.run_next_end_at wr w.heap.size b pos ty hit hp
      have HN := Lib.hid (show z = if 16 < k then 0 else k from by rw [HE.out, ← HG.out, runesGo_end b fuel pos k hp])
      by_cases h16 : 16 < k
      · have g1 : (16 : Int) < k := by omega
        rw [if_pos h16] at HN
        clear h16
        go_wp2
        go_ret
        exact ⟨by rw [HN.out]; rfl, HB.out⟩
      · have g1 : ¬ (16 : Int) < k := by omega
        rw [if_neg h16] at HN
        clear h16
        go_wp2
        go_ret
        exact ⟨by simp [HN.out], HB.out⟩
theorem name_c (w : World) (s : List UInt8) (hs : s.length ≤ 4194304) : Calls Tryz.prog 27 #[.string (bstr s)] w fun e w' => e = .returned (.bool (nameF s)) ∧ B w w' := by
  have HR := Lib.hid (runes_c w s hs)
  clear hs
  have HN := Lib.hid (show nameF s = decide (0 < runesF s) from rfl)
  generalize nameF s = z at *
  generalize runesF s = n at *
  by_cases h : 0 < n
  · have g : (0 : Int) < n := by omega
    rw [decide_eq_true h] at HN
    clear h
    go_enter Tryz.func27, Tryz.ntmps27
    go_wp2_with (first | (go_at_call 59; (with_reducible refine HR.out.mono ?_); rintro e w1 ⟨rfl, hb⟩; have HB := Lib.hid hb; clear hb))
    go_ret
    exact ⟨by simp [HN.out]; omega, HB.out⟩
  · have g : ¬ (0 : Int) < n := by omega
    rw [decide_eq_false h] at HN
    clear h
    go_enter Tryz.func27, Tryz.ntmps27
    go_wp2_with (first | (go_at_call 59; (with_reducible refine HR.out.mono ?_); rintro e w1 ⟨rfl, hb⟩; have HB := Lib.hid hb; clear hb))
    go_ret
    exact ⟨by simp [HN.out]; omega, HB.out⟩
end Go.Proofs.YtafomdobfmmleaaGreatDoor

/- The asker of package message: it keeps the first error. Its small methods, names, signatures, certificates. -/
namespace Go.Proofs.YtafomdobfmmleaaGreatDoor
open Go.RowKit
set_option linter.unusedVariables false
set_option maxRecDepth 20000

theorem w64 {e : Int} (h1 : -9223372036854775808 ≤ e) (h2 : e ≤ 9223372036854775807) : IntKind.i64.wrap e = e := by
  simp only [IntKind.wrap, IntKind.signed, IntKind.bits]
  simp
  omega
theorem listE_at {α : Type} (f : α → Int) {l : List α} {q : Nat} {x : α} (h : l[q]? = some x) : listE f (l.take (q + 1)) = orE (listE f (l.take q)) (f x) := by
  rw [List.take_add_one, h]
  exact listE_snoc f _ x
/-- the asker, with its first error -/
abbrev oAsk (e : Int) : List AO := [.cells 320 [.int .i64 e]]
abbrev FnAsk [Wd] (f : FuncId) (ar : List D) (x : Int) : Prop := ∀ e : Int, FnS Tryz.prog f (.ptr 0 0 :: ar) (oAsk e) (fun r h => r = .tup [] ∧ h = oAsk (orE e x))
section
variable {Q : Exit → S → Prop}
/-- the asker is asked -/
theorem okAskr [Wd] {f : FuncId} {ar ar' : List D} {x e : Int} {hb : List AO} {c : D → List AO → T} (o : Nat) (hF : FnAsk f ar x) (hv : vwP hb [o] [o] (oAsk e)) (hc : Cos ar' (D.ren.rl [o] (.ptr 0 0 :: ar))) (hM : ([o].all fun o => (foot hb ar').elem o) = true) (k : (c (.tup []) (upH hb [o] (oAsk e) (oAsk (orE e x)))).ok Tryz.prog Q) : (T.call f ar' hb c).ok Tryz.prog Q :=
  okCall [o] (hF e) (.mk' rfl hv) hc hM k
theorem endAsk [Wd] {tb : TT} {rs : List ResultVar} {ex : Exit} {s : S} {e e' : Int} {ds : List D} (σ : List Nat) (he : ex = .normal ∨ ex = .ret) (hr : resD tb s rs = some ds) (hn : nodupB σ = true) (hv : vwP s.h σ σ (oAsk e')) (hk : keepP 0 (oAsk e) σ (oAsk e')) (hco : Co (resV ds) (.tup [])) {x : Int} (hx : e' = orE e x) : (T.leaf ex s).ok Tryz.prog (Lf tb rs (oAsk e) (fun r h => r = .tup [] ∧ h = oAsk (orE e x))) := by
  subst hx
  exact endObj σ he hr hn hv hk hco
end
theorem says_s [Wd] (x : Int) : FnAsk 295 [.int .i64 x] x := by
  intro e
  refine mkS 13 [] Tryz.func295 rfl (by kernel_rfl) ?_
  repeat' ((conv => arg 2; whnf); first | refine okBrT ?_ | refine okBrF ?_ | refine okBr (fun h => ?_) (fun h => ?_) | refine endAsk [0] (.inl rfl) rfl rfl ⟨⟨rfl, rfl⟩, trivial⟩ ⟨⟨rfl, rfl⟩, trivial⟩ (.refl _) ?_)
  all_goals simp_all [orE]
theorem ask_s [Wd] (n a b : Int) : FnAsk 294 [.int .i64 n, .int .i64 a, .int .i64 b] (rangeE n a b) := by
  intro e
  refine mkS 18 [] Tryz.func294 rfl (by kernel_rfl) ?_
  repeat' ((conv => arg 2; whnf); first | refine okBrT ?_ | refine okBrF ?_ | refine okBr (fun h => ?_) (fun h => ?_) | refine okAskr 0 (says_s _) ⟨⟨rfl, rfl⟩, trivial⟩ (Cos.refl _) rfl ?_ | refine endAsk [0] (.inl rfl) rfl rfl ⟨⟨rfl, rfl⟩, trivial⟩ ⟨⟨rfl, rfl⟩, trivial⟩ (.refl _) ?_)
  all_goals simp_all [rangeE]
  all_goals (split <;> first | rfl | omega | (rw [orE_z]))
theorem askNum_s [Wd] (n : Int) : FnAsk 299 [.int .i64 n] (numE n) := by
  intro e
  refine mkS 7 [] Tryz.func299 rfl (by kernel_rfl) ?_
  repeat' ((conv => arg 2; whnf); first | refine okAskr 0 (ask_s _ _ _) ⟨⟨rfl, rfl⟩, trivial⟩ (Cos.refl _) rfl ?_ | exact endAsk [0] (.inl rfl) rfl rfl ⟨⟨rfl, rfl⟩, trivial⟩ ⟨⟨rfl, rfl⟩, trivial⟩ (.refl _) rfl)
theorem askPos_s [Wd] (n : Int) : FnAsk 300 [.int .i64 n] (posE n) := by
  intro e
  refine mkS 7 [] Tryz.func300 rfl (by kernel_rfl) ?_
  repeat' ((conv => arg 2; whnf); first | refine okAskr 0 (ask_s _ _ _) ⟨⟨rfl, rfl⟩, trivial⟩ (Cos.refl _) rfl ?_ | exact endAsk [0] (.inl rfl) rfl rfl ⟨⟨rfl, rfl⟩, trivial⟩ ⟨⟨rfl, rfl⟩, trivial⟩ (.refl _) rfl)
theorem askBroker_s [Wd] (n : Int) : FnAsk 298 [.int .i64 n] (brokE n) := by
  intro e
  refine mkS 7 [] Tryz.func298 rfl (by kernel_rfl) ?_
  repeat' ((conv => arg 2; whnf); first | refine okAskr 0 (ask_s _ _ _) ⟨⟨rfl, rfl⟩, trivial⟩ (Cos.refl _) rfl ?_ | exact endAsk [0] (.inl rfl) rfl rfl ⟨⟨rfl, rfl⟩, trivial⟩ ⟨⟨rfl, rfl⟩, trivial⟩ (.refl _) rfl)
theorem askMany_s [Wd] (n m : Int) : FnAsk 304 [.int .i64 n, .int .i64 m] (rangeE n 0 m) := by
  intro e
  refine mkS 10 [] Tryz.func304 rfl (by kernel_rfl) ?_
  repeat' ((conv => arg 2; whnf); first | refine okAskr 0 (ask_s _ _ _) ⟨⟨rfl, rfl⟩, trivial⟩ (Cos.refl _) rfl ?_ | exact endAsk [0] (.inl rfl) rfl rfl ⟨⟨rfl, rfl⟩, trivial⟩ ⟨⟨rfl, rfl⟩, trivial⟩ (.refl _) rfl)
/-- request.CheckSign -/
theorem cSign_s [Wd] (s : SignD) : FnP Tryz.prog 307 [.agg (cSign s)] (.int .i64 (signE s)) := by
  refine mkS 21 [] Tryz.func307 rfl (by kernel_rfl) ?_
  repeat' ((conv => arg 2; whnf); first | refine okBrT ?_ | refine okBrF ?_ | refine okBr (fun h => ?_) (fun h => ?_) | refine endInt (.inr rfl) rfl ?_)
  all_goals simp_all [signE]
  all_goals omega
theorem askSigns_s [Wd] (l : List SignD) (hl : l.length ≤ 4194304) : FnAsk 318 [.list 2 (l.map cSign)] (signsE l) := by
  intro e
  refine mkS 21 [] Tryz.func318 rfl (by kernel_rfl) ?_
  repeat' ((conv => arg 2; whnf); first | refine okAskr 0 (askMany_s _ _) ⟨⟨rfl, rfl⟩, trivial⟩ (Cos.refl _) rfl ?_ )
  refine okLoop (α := Nat × Int) (fun a => ⟨[(12, .int .i64 a.1), (11, .int .i64 (l.map cSign).length), (10, .list 2 (l.map cSign)), (0, .ptr 0 0)], oAsk a.2⟩) (fun a => a.1 ≤ l.length ∧ a.2 = orE (orE e (manyE l.length 13)) (listE signE (l.take a.1))) (fun a => l.length - a.1) (0, _) ⟨Nat.zero_le _, by simp [listE, orE_z, manyE]; rfl⟩ (Sv.mk' [0] rfl ⟨⟨rfl, rfl⟩, trivial⟩ ⟨rfl, rfl, rfl, rfl, trivial⟩) ?_
  rintro ⟨q, e'⟩ ⟨hq, he⟩
  repeat'
    (conv => arg 2; whnf)
    first
    | refine okBrT ?_
    | refine okBrF ?_
    | refine okBr (fun h => ?_) (fun h => ?_)
    | refine okNthMap (by simpa using h) (fun x hx => ?_)
    | refine okFn (cSign_s x) rfl (Cos.refl _) ?_
    | refine okAskr 0 (says_s _) ⟨⟨rfl, rfl⟩, trivial⟩ (Cos.refl _) rfl ?_
    | refine okWrap (w64 (by simp at h hq; omega) (by simp at h hq; omega)) ?_
    | refine okAgain (q + 1, _) (Sv.mk' [0] rfl ⟨⟨rfl, rfl⟩, trivial⟩ ⟨rfl, rfl, rfl, rfl, trivial⟩) ⟨?_, ?_⟩ ?_
    | refine okOut ?_
    | refine endAsk [0] (.inl rfl) rfl rfl ⟨⟨rfl, rfl⟩, trivial⟩ ⟨⟨rfl, rfl⟩, trivial⟩ (.refl _) ?_
  · show q + 1 ≤ l.length
    simp at h; omega
  · show orE e' (signE x) = _
    rw [listE_at signE hx, ← orE_assoc, ← he]
  · simp at h ⊢; omega
  · rw [he, show l.take q = l from List.take_of_length_le (by simp at h; omega), signsE, orE_assoc]
end Go.Proofs.YtafomdobfmmleaaGreatDoor

/- Which bytes, operations, batches, messages are the same, over data (printed by gen_aq.py). -/
namespace Go.Proofs.YtafomdobfmmleaaGreatDoor
open Go.RowKit
set_option linter.unusedVariables false
set_option maxRecDepth 20000

theorem beqE {α : Type} [DecidableEq α] (a b : α) : (a == b) = eqB a b := by
  by_cases h : a = b
  · rw [eqB_true h]; simp [h]
  · rw [eqB_false h]; simp [h]
theorem decE {α : Type} [DecidableEq α] (a b : α) : decide (a = b) = eqB a b := beqE a b
theorem eqB_len {α : Type} {l k : List α} (h : ¬ l.length = k.length) : eqB l k = false := eqB_false (fun e => h (by rw [e]))
theorem eqB_all {α : Type} {l k : List α} {q : Nat} (hl : l.length = k.length) (hq : ¬ q < l.length) (he : l.take q = k.take q) : eqB l k = true := by
  refine eqB_true ?_
  rw [List.take_of_length_le (by omega), List.take_of_length_le (by omega)] at he
  exact he
theorem eqB_no {α : Type} {l k : List α} {q : Nat} {x y : α} (hx : l[q]? = some x) (hy : k[q]? = some y) (h : eqB x y = false) : eqB l k = false := by
  refine eqB_false (fun e => ?_)
  subst e
  rw [hx] at hy
  injection hy with hy
  rw [eqB_true hy] at h
  cases h
theorem eqB_go {α : Type} {l k : List α} {q : Nat} {x y : α} (hx : l[q]? = some x) (hy : k[q]? = some y) (h : eqB x y = true) (he : l.take q = k.take q) : l.take (q + 1) = k.take (q + 1) := by
  rw [List.take_add_one, List.take_add_one, hx, hy, he, eqB_iff.1 h]
theorem sign_eqB (a b : SignD) : ((a.key == b.key) && (a.digest == b.digest)) = eqB a b := by
  cases a; cases b
  rw [Bool.eq_iff_iff, eqB_iff]; simp
theorem head_eqB (a b : HeaderD) : (((((a.seq == b.seq) && (a.prev == b.prev)) && (a.batch == b.batch)) && (a.root == b.root)) && (a.state == b.state)) = eqB a b := by
  cases a; cases b
  rw [Bool.eq_iff_iff, eqB_iff]; simp [and_assoc]
theorem op_eqB (a b : OpD) : eqB a b = ((a.kind == b.kind) && decide (a.topic = b.topic) && decide (a.group = b.group) && (a.offset == b.offset) && eqB a.records b.records) := by
  obtain ⟨a0, a1, a2, a3, a4⟩ := a
  obtain ⟨b0, b1, b2, b3, b4⟩ := b
  rw [Bool.eq_iff_iff, eqB_iff]
  simp [eqB_iff, and_assoc]
theorem request_eqB (a b : RequestD) : eqB a b = ((a.client == b.client) && (a.time == b.time) && eqB a.op b.op) := by
  obtain ⟨a0, a1, a2⟩ := a
  obtain ⟨b0, b1, b2⟩ := b
  rw [Bool.eq_iff_iff, eqB_iff]
  simp [eqB_iff, and_assoc]
theorem signed_eqB (a b : SignedD) : eqB a b = (eqB a.request b.request && (a.sign.key == b.sign.key) && (a.sign.digest == b.sign.digest)) := by
  obtain ⟨a0, ⟨a1key, a1digest⟩⟩ := a
  obtain ⟨b0, ⟨b1key, b1digest⟩⟩ := b
  rw [Bool.eq_iff_iff, eqB_iff]
  simp [eqB_iff, and_assoc]
theorem cert_eqB (a b : CertD) : eqB a b = ((a.seq == b.seq) && (a.digest == b.digest) && eqB a.signs b.signs) := by
  obtain ⟨a0, a1, a2⟩ := a
  obtain ⟨b0, b1, b2⟩ := b
  rw [Bool.eq_iff_iff, eqB_iff]
  simp [eqB_iff, and_assoc]
theorem prepared_eqB (a b : PreparedD) : eqB a b = ((a.view == b.view) && (a.seq == b.seq) && (a.digest == b.digest) && (a.firstS.key == b.firstS.key) && (a.firstS.digest == b.firstS.digest) && eqB a.signs b.signs && eqB a.batch b.batch) := by
  obtain ⟨a0, a1, a2, ⟨a3key, a3digest⟩, a4, a5⟩ := a
  obtain ⟨b0, b1, b2, ⟨b3key, b3digest⟩, b4, b5⟩ := b
  rw [Bool.eq_iff_iff, eqB_iff]
  simp [eqB_iff, and_assoc]
theorem change_eqB (a b : ChangeD) : eqB a b = ((a.view == b.view) && (a.src == b.src) && eqB a.cert b.cert && eqB a.above b.above && (a.sign.key == b.sign.key) && (a.sign.digest == b.sign.digest)) := by
  obtain ⟨a0, a1, a2, a3, ⟨a4key, a4digest⟩⟩ := a
  obtain ⟨b0, b1, b2, b3, ⟨b4key, b4digest⟩⟩ := b
  rw [Bool.eq_iff_iff, eqB_iff]
  simp [eqB_iff, and_assoc]
theorem entry_eqB (a b : EntryD) : eqB a b = ((a.view == b.view) && (a.seq == b.seq) && eqB a.batch b.batch && (a.sign.key == b.sign.key) && (a.sign.digest == b.sign.digest)) := by
  obtain ⟨a0, a1, a2, ⟨a3key, a3digest⟩⟩ := a
  obtain ⟨b0, b1, b2, ⟨b3key, b3digest⟩⟩ := b
  rw [Bool.eq_iff_iff, eqB_iff]
  simp [eqB_iff, and_assoc]
theorem proof_eqB (a b : ProofD) : eqB a b = (decide (a.topic = b.topic) && (a.offset == b.offset) && eqB a.record b.record && eqB a.headers b.headers && (a.index == b.index) && (a.count == b.count) && eqB a.path b.path && eqB a.cert b.cert) := by
  obtain ⟨a0, a1, a2, a3, a4, a5, a6, a7⟩ := a
  obtain ⟨b0, b1, b2, b3, b4, b5, b6, b7⟩ := b
  rw [Bool.eq_iff_iff, eqB_iff]
  simp [eqB_iff, and_assoc]
theorem msg_eqB (a b : MsgD) : eqB a b = ((a.kind == b.kind) && (a.src == b.src) && (a.view == b.view) && (a.seq == b.seq) && (a.digest == b.digest) && (a.client == b.client) && (a.time == b.time) && (a.result.err == b.result.err) && (a.result.offset == b.result.offset) && eqB a.batch b.batch && eqB a.cert b.cert && eqB a.changes b.changes && eqB a.entries b.entries && eqB a.state b.state && decide (a.topic = b.topic) && (a.offset == b.offset) && eqB a.proof b.proof && (a.sign.key == b.sign.key) && (a.sign.digest == b.sign.digest)) := by
  obtain ⟨a0, a1, a2, a3, a4, a5, a6, ⟨a7err, a7offset⟩, a8, a9, a10, a11, a12, a13, a14, a15, ⟨a16key, a16digest⟩⟩ := a
  obtain ⟨b0, b1, b2, b3, b4, b5, b6, ⟨b7err, b7offset⟩, b8, b9, b10, b11, b12, b13, b14, b15, ⟨b16key, b16digest⟩⟩ := b
  rw [Bool.eq_iff_iff, eqB_iff]
  simp [eqB_iff, and_assoc]
theorem act_eqB (a b : ActD) : eqB a b = ((a.kind == b.kind) && (a.who == b.who) && (a.num == b.num) && eqB a.op b.op && eqB a.bytes b.bytes && eqB a.msg b.msg && (a.sealed == b.sealed)) := by
  obtain ⟨a0, a1, a2, a3, a4, a5, a6⟩ := a
  obtain ⟨b0, b1, b2, b3, b4, b5, b6⟩ := b
  rw [Bool.eq_iff_iff, eqB_iff]
  simp [eqB_iff, and_assoc]
theorem bEq_s [Wd] (a b : List UInt8) (ha : a.length ≤ 4194304) (hb : b.length ≤ 4194304) : FnP Tryz.prog 16 [.list 1 (a.map cByte), .list 1 (b.map cByte)] (.bool (eqB a b)) := by
  refine mkS 10 [] Tryz.func16 rfl (by kernel_rfl) ?_
  repeat'
    (conv => arg 2; whnf)
    first
    | refine okByts a rfl ?_
    | refine okByts b rfl ?_
    | refine okAsk (by omega) ?_
    | refine okAsk (by kernel_rfl) ?_
    | refine okBrT ?_
    | refine okBrF ?_
    | refine okBr (fun h => ?_) (fun h => ?_)
    | (refine endBool (.inr rfl) rfl ?_; exact decE a b)
theorem oSame1_s [Wd] (a b : List UInt8) (ha : a.length ≤ 4194304) (hb : b.length ≤ 4194304) : FnP Tryz.prog 88 [.list 1 (a.map cByte), .list 1 (b.map cByte)] (.bool (eqB a b)) := by
  refine mkS 8 [] Tryz.func88 rfl (by kernel_rfl) ?_
  repeat'
    (conv => arg 2; whnf)
    first
    | refine okAsk (by kernel_rfl) ?_
    | refine okBrT ?_
    | refine okBrF ?_
    | refine okBr (fun h => ?_) (fun h => ?_)
    | refine okFn (bEq_s a b ha hb) rfl (Cos.refl _) ?_
    | refine endBool (.inr rfl) rfl rfl
theorem eqRec_s [Wd] (l k : List (List UInt8)) (hl : (dL dY).ok l) (hk : (dL dY).ok k) : FnP Tryz.prog 87 [.list 1 (l.map cRec), .list 1 (k.map cRec), .fn 88 0 []] (.bool (eqB l k)) := by
  have HL : l.length ≤ 4194304 := hl.1
  refine mkS 32 [] Tryz.func87 rfl (by kernel_rfl) ?_
  repeat'
    (conv => arg 2; whnf)
    first
    | refine okAsk (by kernel_rfl) ?_
    | refine okBrT ?_
    | refine okBrF ?_
    | refine okBr (fun h => ?_) (fun h => ?_)
    | (refine endBool (.inr rfl) rfl ?_; exact (eqB_len (by simp at h; omega)).symm)
  have hn : l.length = k.length := by simp at h; omega
  refine okLoop (α := Nat) (fun q => ⟨[(17, .int .i64 q), (16, .int .i64 (l.map cRec).length), (15, .list 1 (l.map cRec)), (2, .fn 88 0 []), (1, .list 1 (k.map cRec))], []⟩) (fun q => q ≤ l.length ∧ l.take q = k.take q) (fun q => l.length - q) 0 ⟨Nat.zero_le _, rfl⟩ (Sv.mk' [] rfl trivial ⟨rfl, rfl, rfl, rfl, rfl, trivial⟩) ?_
  rintro q ⟨hq, he⟩
  repeat'
    (conv => arg 2; whnf)
    first
    | refine okAsk (by kernel_rfl) ?_
    | refine okBrT ?_
    | refine okBrF ?_
    | refine okBr (fun h => ?_) (fun h => ?_)
    | refine okNthMap (l := l) (by simp at h; omega) (fun x hx => ?_)
    | refine okNthMap (l := k) (by simp at h; omega) (fun y hy => ?_)
    | refine okFn (oSame1_s x y (hl.2 x (List.mem_of_getElem? hx)) (hk.2 y (List.mem_of_getElem? hy))) rfl (Cos.refl _) ?_
    | refine okWrap (w64 (by simp at h hq; omega) (by have := HL; simp at h hq; omega)) ?_
    | refine okAgain (q + 1) (Sv.mk' [] rfl trivial ⟨rfl, rfl, rfl, rfl, rfl, trivial⟩) ⟨by have := (List.getElem?_eq_some_iff.1 hx).1; omega, eqB_go hx hy (by simpa using h) he⟩ (by have := (List.getElem?_eq_some_iff.1 hx).1; omega)
    | refine okOut ?_
    | refine okRet ?_
    | (refine endBool (.inr rfl) rfl ?_; have hl := eqB_no hx hy (by simpa using h); exact hl.symm; done)
    | (have hl := eqB_all hn (by simp at h; omega) he; refine endBool (.inr rfl) rfl ?_; exact hl.symm; done)
theorem oSame_s [Wd] (a b : OpD) (ha : dOp.ok a) (hb : dOp.ok b) : FnP Tryz.prog 53 [.agg (cOp a), .agg (cOp b)] (.bool (eqB a b)) := by
  refine mkS 38 [] Tryz.func53 rfl (by kernel_rfl) ?_
  repeat'
    (conv => arg 2; whnf)
    first
    | refine okAsk (by kernel_rfl) ?_
    | refine okBrT ?_
    | refine okBrF ?_
    | refine okBr (fun h => ?_) (fun h => ?_)
    | refine okFn (eqRec_s a.records b.records ha.2.2.2.2 hb.2.2.2.2) rfl (Cos.refl _) ?_
    | (refine endBool (.inr rfl) rfl ?_; rw [op_eqB]; simp_all; done)
    | (exfalso; simp_all; done)
theorem qSame1_s [Wd] (a b : SignedD) (ha : dSigned.ok a) (hb : dSigned.ok b) : FnP Tryz.prog 131 [.agg (cSigned a), .agg (cSigned b)] (.bool (eqB a b)) := by
  refine mkS 37 [] Tryz.func131 rfl (by kernel_rfl) ?_
  repeat'
    (conv => arg 2; whnf)
    first
    | refine okAsk (by kernel_rfl) ?_
    | refine okBrT ?_
    | refine okBrF ?_
    | refine okBr (fun h => ?_) (fun h => ?_)
    | refine okFn (oSame_s a.request.op b.request.op ha.1.2.2 hb.1.2.2) rfl (Cos.refl _) ?_
    | (refine endBool (.inr rfl) rfl ?_; rw [signed_eqB, request_eqB]; simp_all; done)
    | (exfalso; simp_all; done)
theorem eqSigned_s [Wd] (l k : List (SignedD)) (hl : (dL dSigned).ok l) (hk : (dL dSigned).ok k) : FnP Tryz.prog 130 [.list 9 (l.map cSigned), .list 9 (k.map cSigned), .fn 131 0 []] (.bool (eqB l k)) := by
  have HL : l.length ≤ 4194304 := hl.1
  refine mkS 32 [] Tryz.func130 rfl (by kernel_rfl) ?_
  repeat'
    (conv => arg 2; whnf)
    first
    | refine okAsk (by kernel_rfl) ?_
    | refine okBrT ?_
    | refine okBrF ?_
    | refine okBr (fun h => ?_) (fun h => ?_)
    | (refine endBool (.inr rfl) rfl ?_; exact (eqB_len (by simp at h; omega)).symm)
  have hn : l.length = k.length := by simp at h; omega
  refine okLoop (α := Nat) (fun q => ⟨[(17, .int .i64 q), (16, .int .i64 (l.map cSigned).length), (15, .list 9 (l.map cSigned)), (2, .fn 131 0 []), (1, .list 9 (k.map cSigned))], []⟩) (fun q => q ≤ l.length ∧ l.take q = k.take q) (fun q => l.length - q) 0 ⟨Nat.zero_le _, rfl⟩ (Sv.mk' [] rfl trivial ⟨rfl, rfl, rfl, rfl, rfl, trivial⟩) ?_
  rintro q ⟨hq, he⟩
  repeat'
    (conv => arg 2; whnf)
    first
    | refine okAsk (by kernel_rfl) ?_
    | refine okBrT ?_
    | refine okBrF ?_
    | refine okBr (fun h => ?_) (fun h => ?_)
    | refine okNthMap (l := l) (by simp at h; omega) (fun x hx => ?_)
    | refine okNthMap (l := k) (by simp at h; omega) (fun y hy => ?_)
    | refine okFn (qSame1_s x y (hl.2 x (List.mem_of_getElem? hx)) (hk.2 y (List.mem_of_getElem? hy))) rfl (Cos.refl _) ?_
    | refine okWrap (w64 (by simp at h hq; omega) (by have := HL; simp at h hq; omega)) ?_
    | refine okAgain (q + 1) (Sv.mk' [] rfl trivial ⟨rfl, rfl, rfl, rfl, rfl, trivial⟩) ⟨by have := (List.getElem?_eq_some_iff.1 hx).1; omega, eqB_go hx hy (by simpa using h) he⟩ (by have := (List.getElem?_eq_some_iff.1 hx).1; omega)
    | refine okOut ?_
    | refine okRet ?_
    | (refine endBool (.inr rfl) rfl ?_; have hl := eqB_no hx hy (by simpa using h); exact hl.symm; done)
    | (have hl := eqB_all hn (by simp at h; omega) he; refine endBool (.inr rfl) rfl ?_; exact hl.symm; done)
theorem qSame_s [Wd] (l k : List SignedD) (hl : (dL dSigned).ok l) (hk : (dL dSigned).ok k) : FnP Tryz.prog 90 [.list 9 (l.map cSigned), .list 9 (k.map cSigned)] (.bool (eqB l k)) := by
  refine mkS 8 [] Tryz.func90 rfl (by kernel_rfl) ?_
  repeat'
    (conv => arg 2; whnf)
    first
    | refine okAsk (by kernel_rfl) ?_
    | refine okBrT ?_
    | refine okBrF ?_
    | refine okBr (fun h => ?_) (fun h => ?_)
    | refine okFn (eqSigned_s l k hl hk) rfl (Cos.refl _) ?_
    | refine endBool (.inr rfl) rfl rfl
theorem eqSigns_s [Wd] (l k : List (SignD)) (hl : l.length ≤ 4194304) : FnP Tryz.prog 132 [.list 2 (l.map cSign), .list 2 (k.map cSign)] (.bool (eqB l k)) := by
  have HL : l.length ≤ 4194304 := hl
  refine mkS 26 [] Tryz.func132 rfl (by kernel_rfl) ?_
  repeat'
    (conv => arg 2; whnf)
    first
    | refine okAsk (by kernel_rfl) ?_
    | refine okBrT ?_
    | refine okBrF ?_
    | refine okBr (fun h => ?_) (fun h => ?_)
    | (refine endBool (.inr rfl) rfl ?_; exact (eqB_len (by simp at h; omega)).symm)
  have hn : l.length = k.length := by simp at h; omega
  refine okLoop (α := Nat) (fun q => ⟨[(13, .int .i64 q), (12, .int .i64 (l.map cSign).length), (0, .list 2 (l.map cSign)), (1, .list 2 (k.map cSign))], []⟩) (fun q => q ≤ l.length ∧ l.take q = k.take q) (fun q => l.length - q) 0 ⟨Nat.zero_le _, rfl⟩ (Sv.mk' [] rfl trivial ⟨rfl, rfl, rfl, rfl, trivial⟩) ?_
  rintro q ⟨hq, he⟩
  repeat'
    (conv => arg 2; whnf)
    first
    | refine okAsk (by kernel_rfl) ?_
    | refine okBrT ?_
    | refine okBrF ?_
    | refine okBr (fun h => ?_) (fun h => ?_)
    | refine okNthMap (l := l) (by simp at h; omega) (fun x hx => ?_)
    | refine okNthMap (l := k) (by simp at h; omega) (fun y hy => ?_)
    | refine okWrap (w64 (by simp at h hq; omega) (by have := HL; simp at h hq; omega)) ?_
    | refine okAgain (q + 1) (Sv.mk' [] rfl trivial ⟨rfl, rfl, rfl, rfl, trivial⟩) ⟨by have := (List.getElem?_eq_some_iff.1 hx).1; omega, eqB_go hx hy (by rw [← sign_eqB]; rw [Bool.true_and] at h; first | exact (Bool.not_eq_true' _).mp h | exact (Bool.not_eq_false' _).mp h) he⟩ (by have := (List.getElem?_eq_some_iff.1 hx).1; omega)
    | refine okOut ?_
    | refine okRet ?_
    | (refine endBool (.inr rfl) rfl ?_; have hl := eqB_no hx hy (by rw [← sign_eqB]; rw [Bool.true_and] at h; first | exact (Bool.not_eq_true' _).mp h | exact (Bool.not_eq_false' _).mp h); exact hl.symm; done)
    | (have hl := eqB_all hn (by simp at h; omega) he; refine endBool (.inr rfl) rfl ?_; exact hl.symm; done)
theorem eqHeaders_s [Wd] (l k : List (HeaderD)) (hl : l.length ≤ 4194304) : FnP Tryz.prog 135 [.list 5 (l.map cHeader), .list 5 (k.map cHeader)] (.bool (eqB l k)) := by
  have HL : l.length ≤ 4194304 := hl
  refine mkS 26 [] Tryz.func135 rfl (by kernel_rfl) ?_
  repeat'
    (conv => arg 2; whnf)
    first
    | refine okAsk (by kernel_rfl) ?_
    | refine okBrT ?_
    | refine okBrF ?_
    | refine okBr (fun h => ?_) (fun h => ?_)
    | (refine endBool (.inr rfl) rfl ?_; exact (eqB_len (by simp at h; omega)).symm)
  have hn : l.length = k.length := by simp at h; omega
  refine okLoop (α := Nat) (fun q => ⟨[(13, .int .i64 q), (12, .int .i64 (l.map cHeader).length), (0, .list 5 (l.map cHeader)), (1, .list 5 (k.map cHeader))], []⟩) (fun q => q ≤ l.length ∧ l.take q = k.take q) (fun q => l.length - q) 0 ⟨Nat.zero_le _, rfl⟩ (Sv.mk' [] rfl trivial ⟨rfl, rfl, rfl, rfl, trivial⟩) ?_
  rintro q ⟨hq, he⟩
  repeat'
    (conv => arg 2; whnf)
    first
    | refine okAsk (by kernel_rfl) ?_
    | refine okBrT ?_
    | refine okBrF ?_
    | refine okBr (fun h => ?_) (fun h => ?_)
    | refine okNthMap (l := l) (by simp at h; omega) (fun x hx => ?_)
    | refine okNthMap (l := k) (by simp at h; omega) (fun y hy => ?_)
    | refine okWrap (w64 (by simp at h hq; omega) (by have := HL; simp at h hq; omega)) ?_
    | refine okAgain (q + 1) (Sv.mk' [] rfl trivial ⟨rfl, rfl, rfl, rfl, trivial⟩) ⟨by have := (List.getElem?_eq_some_iff.1 hx).1; omega, eqB_go hx hy (by rw [← head_eqB]; rw [Bool.true_and] at h; first | exact (Bool.not_eq_true' _).mp h | exact (Bool.not_eq_false' _).mp h) he⟩ (by have := (List.getElem?_eq_some_iff.1 hx).1; omega)
    | refine okOut ?_
    | refine okRet ?_
    | (refine endBool (.inr rfl) rfl ?_; have hl := eqB_no hx hy (by rw [← head_eqB]; rw [Bool.true_and] at h; first | exact (Bool.not_eq_true' _).mp h | exact (Bool.not_eq_false' _).mp h); exact hl.symm; done)
    | (have hl := eqB_all hn (by simp at h; omega) he; refine endBool (.inr rfl) rfl ?_; exact hl.symm; done)
theorem eqDigests_s [Wd] (l k : List (Int)) (hl : l.length ≤ 4194304) : FnP Tryz.prog 136 [.list 1 (l.map cNum), .list 1 (k.map cNum)] (.bool (eqB l k)) := by
  have HL : l.length ≤ 4194304 := hl
  refine mkS 26 [] Tryz.func136 rfl (by kernel_rfl) ?_
  repeat'
    (conv => arg 2; whnf)
    first
    | refine okAsk (by kernel_rfl) ?_
    | refine okBrT ?_
    | refine okBrF ?_
    | refine okBr (fun h => ?_) (fun h => ?_)
    | (refine endBool (.inr rfl) rfl ?_; exact (eqB_len (by simp at h; omega)).symm)
  have hn : l.length = k.length := by simp at h; omega
  refine okLoop (α := Nat) (fun q => ⟨[(13, .int .i64 q), (12, .int .i64 (l.map cNum).length), (0, .list 1 (l.map cNum)), (1, .list 1 (k.map cNum))], []⟩) (fun q => q ≤ l.length ∧ l.take q = k.take q) (fun q => l.length - q) 0 ⟨Nat.zero_le _, rfl⟩ (Sv.mk' [] rfl trivial ⟨rfl, rfl, rfl, rfl, trivial⟩) ?_
  rintro q ⟨hq, he⟩
  repeat'
    (conv => arg 2; whnf)
    first
    | refine okAsk (by kernel_rfl) ?_
    | refine okBrT ?_
    | refine okBrF ?_
    | refine okBr (fun h => ?_) (fun h => ?_)
    | refine okNthMap (l := l) (by simp at h; omega) (fun x hx => ?_)
    | refine okNthMap (l := k) (by simp at h; omega) (fun y hy => ?_)
    | refine okWrap (w64 (by simp at h hq; omega) (by have := HL; simp at h hq; omega)) ?_
    | refine okAgain (q + 1) (Sv.mk' [] rfl trivial ⟨rfl, rfl, rfl, rfl, trivial⟩) ⟨by have := (List.getElem?_eq_some_iff.1 hx).1; omega, eqB_go hx hy (by rw [← beqE]; simpa using h) he⟩ (by have := (List.getElem?_eq_some_iff.1 hx).1; omega)
    | refine okOut ?_
    | refine okRet ?_
    | (refine endBool (.inr rfl) rfl ?_; have hl := eqB_no hx hy (by rw [← beqE]; simpa using h); exact hl.symm; done)
    | (have hl := eqB_all hn (by simp at h; omega) he; refine endBool (.inr rfl) rfl ?_; exact hl.symm; done)
theorem sameCert_s [Wd] (a b : CertD) (ha : dCert.ok a) (hb : dCert.ok b) : FnP Tryz.prog 91 [.agg (cCert a), .agg (cCert b)] (.bool (eqB a b)) := by
  refine mkS 24 [] Tryz.func91 rfl (by kernel_rfl) ?_
  repeat'
    (conv => arg 2; whnf)
    first
    | refine okAsk (by kernel_rfl) ?_
    | refine okBrT ?_
    | refine okBrF ?_
    | refine okBr (fun h => ?_) (fun h => ?_)
    | refine okFn (eqSigns_s a.signs b.signs ha.2.2.1) rfl (Cos.refl _) ?_
    | (refine endBool (.inr rfl) rfl ?_; rw [cert_eqB]; simp_all; done)
    | (exfalso; simp_all; done)
theorem samePrep_s [Wd] (a b : PreparedD) (ha : dPrepared.ok a) (hb : dPrepared.ok b) : FnP Tryz.prog 134 [.agg (cPrepared a), .agg (cPrepared b)] (.bool (eqB a b)) := by
  refine mkS 45 [] Tryz.func134 rfl (by kernel_rfl) ?_
  repeat'
    (conv => arg 2; whnf)
    first
    | refine okAsk (by kernel_rfl) ?_
    | refine okBrT ?_
    | refine okBrF ?_
    | refine okBr (fun h => ?_) (fun h => ?_)
    | refine okFn (eqSigns_s a.signs b.signs ha.2.2.2.2.1.1) rfl (Cos.refl _) ?_
    | refine okFn (qSame_s a.batch b.batch ha.2.2.2.2.2 hb.2.2.2.2.2) rfl (Cos.refl _) ?_
    | (refine endBool (.inr rfl) rfl ?_; rw [prepared_eqB]; simp_all; done)
    | (exfalso; simp_all; done)
theorem eqPrep_s [Wd] (l k : List (PreparedD)) (hl : (dL dPrepared).ok l) (hk : (dL dPrepared).ok k) : FnP Tryz.prog 133 [.list 7 (l.map cPrepared), .list 7 (k.map cPrepared), .fn 134 0 []] (.bool (eqB l k)) := by
  have HL : l.length ≤ 4194304 := hl.1
  refine mkS 32 [] Tryz.func133 rfl (by kernel_rfl) ?_
  repeat'
    (conv => arg 2; whnf)
    first
    | refine okAsk (by kernel_rfl) ?_
    | refine okBrT ?_
    | refine okBrF ?_
    | refine okBr (fun h => ?_) (fun h => ?_)
    | (refine endBool (.inr rfl) rfl ?_; exact (eqB_len (by simp at h; omega)).symm)
  have hn : l.length = k.length := by simp at h; omega
  refine okLoop (α := Nat) (fun q => ⟨[(17, .int .i64 q), (16, .int .i64 (l.map cPrepared).length), (15, .list 7 (l.map cPrepared)), (2, .fn 134 0 []), (1, .list 7 (k.map cPrepared))], []⟩) (fun q => q ≤ l.length ∧ l.take q = k.take q) (fun q => l.length - q) 0 ⟨Nat.zero_le _, rfl⟩ (Sv.mk' [] rfl trivial ⟨rfl, rfl, rfl, rfl, rfl, trivial⟩) ?_
  rintro q ⟨hq, he⟩
  repeat'
    (conv => arg 2; whnf)
    first
    | refine okAsk (by kernel_rfl) ?_
    | refine okBrT ?_
    | refine okBrF ?_
    | refine okBr (fun h => ?_) (fun h => ?_)
    | refine okNthMap (l := l) (by simp at h; omega) (fun x hx => ?_)
    | refine okNthMap (l := k) (by simp at h; omega) (fun y hy => ?_)
    | refine okFn (samePrep_s x y (hl.2 x (List.mem_of_getElem? hx)) (hk.2 y (List.mem_of_getElem? hy))) rfl (Cos.refl _) ?_
    | refine okWrap (w64 (by simp at h hq; omega) (by have := HL; simp at h hq; omega)) ?_
    | refine okAgain (q + 1) (Sv.mk' [] rfl trivial ⟨rfl, rfl, rfl, rfl, rfl, trivial⟩) ⟨by have := (List.getElem?_eq_some_iff.1 hx).1; omega, eqB_go hx hy (by simpa using h) he⟩ (by have := (List.getElem?_eq_some_iff.1 hx).1; omega)
    | refine okOut ?_
    | refine okRet ?_
    | (refine endBool (.inr rfl) rfl ?_; have hl := eqB_no hx hy (by simpa using h); exact hl.symm; done)
    | (have hl := eqB_all hn (by simp at h; omega) he; refine endBool (.inr rfl) rfl ?_; exact hl.symm; done)
theorem sameChange_s [Wd] (a b : ChangeD) (ha : dChange.ok a) (hb : dChange.ok b) : FnP Tryz.prog 93 [.agg (cChange a), .agg (cChange b)] (.bool (eqB a b)) := by
  refine mkS 38 [] Tryz.func93 rfl (by kernel_rfl) ?_
  repeat'
    (conv => arg 2; whnf)
    first
    | refine okAsk (by kernel_rfl) ?_
    | refine okBrT ?_
    | refine okBrF ?_
    | refine okBr (fun h => ?_) (fun h => ?_)
    | refine okFn (sameCert_s a.cert b.cert ha.2.2.1 hb.2.2.1) rfl (Cos.refl _) ?_
    | refine okFn (eqPrep_s a.above b.above ha.2.2.2.1 hb.2.2.2.1) rfl (Cos.refl _) ?_
    | (refine endBool (.inr rfl) rfl ?_; rw [change_eqB]; simp_all; done)
    | (exfalso; simp_all; done)
theorem sameEntry_s [Wd] (a b : EntryD) (ha : dEntry.ok a) (hb : dEntry.ok b) : FnP Tryz.prog 95 [.agg (cEntry a), .agg (cEntry b)] (.bool (eqB a b)) := by
  refine mkS 31 [] Tryz.func95 rfl (by kernel_rfl) ?_
  repeat'
    (conv => arg 2; whnf)
    first
    | refine okAsk (by kernel_rfl) ?_
    | refine okBrT ?_
    | refine okBrF ?_
    | refine okBr (fun h => ?_) (fun h => ?_)
    | refine okFn (qSame_s a.batch b.batch ha.2.2.1 hb.2.2.1) rfl (Cos.refl _) ?_
    | (refine endBool (.inr rfl) rfl ?_; rw [entry_eqB]; simp_all; done)
    | (exfalso; simp_all; done)
theorem sameProof_s [Wd] (a b : ProofD) (ha : dProof.ok a) (hb : dProof.ok b) : FnP Tryz.prog 96 [.agg (cProof a), .agg (cProof b)] (.bool (eqB a b)) := by
  refine mkS 59 [] Tryz.func96 rfl (by kernel_rfl) ?_
  repeat'
    (conv => arg 2; whnf)
    first
    | refine okAsk (by kernel_rfl) ?_
    | refine okBrT ?_
    | refine okBrF ?_
    | refine okBr (fun h => ?_) (fun h => ?_)
    | refine okFn (bEq_s a.record b.record ha.2.2.1 hb.2.2.1) rfl (Cos.refl _) ?_
    | refine okFn (eqHeaders_s a.headers b.headers ha.2.2.2.1.1) rfl (Cos.refl _) ?_
    | refine okFn (eqDigests_s a.path b.path ha.2.2.2.2.2.2.1.1) rfl (Cos.refl _) ?_
    | refine okFn (sameCert_s a.cert b.cert ha.2.2.2.2.2.2.2 hb.2.2.2.2.2.2.2) rfl (Cos.refl _) ?_
    | (refine endBool (.inr rfl) rfl ?_; rw [proof_eqB]; simp_all; done)
    | (exfalso; simp_all; done)
theorem eqChange_s [Wd] (l k : List (ChangeD)) (hl : (dL dChange).ok l) (hk : (dL dChange).ok k) : FnP Tryz.prog 92 [.list 8 (l.map cChange), .list 8 (k.map cChange), .fn 93 0 []] (.bool (eqB l k)) := by
  have HL : l.length ≤ 4194304 := hl.1
  refine mkS 32 [] Tryz.func92 rfl (by kernel_rfl) ?_
  repeat'
    (conv => arg 2; whnf)
    first
    | refine okAsk (by kernel_rfl) ?_
    | refine okBrT ?_
    | refine okBrF ?_
    | refine okBr (fun h => ?_) (fun h => ?_)
    | (refine endBool (.inr rfl) rfl ?_; exact (eqB_len (by simp at h; omega)).symm)
  have hn : l.length = k.length := by simp at h; omega
  refine okLoop (α := Nat) (fun q => ⟨[(17, .int .i64 q), (16, .int .i64 (l.map cChange).length), (15, .list 8 (l.map cChange)), (2, .fn 93 0 []), (1, .list 8 (k.map cChange))], []⟩) (fun q => q ≤ l.length ∧ l.take q = k.take q) (fun q => l.length - q) 0 ⟨Nat.zero_le _, rfl⟩ (Sv.mk' [] rfl trivial ⟨rfl, rfl, rfl, rfl, rfl, trivial⟩) ?_
  rintro q ⟨hq, he⟩
  repeat'
    (conv => arg 2; whnf)
    first
    | refine okAsk (by kernel_rfl) ?_
    | refine okBrT ?_
    | refine okBrF ?_
    | refine okBr (fun h => ?_) (fun h => ?_)
    | refine okNthMap (l := l) (by simp at h; omega) (fun x hx => ?_)
    | refine okNthMap (l := k) (by simp at h; omega) (fun y hy => ?_)
    | refine okFn (sameChange_s x y (hl.2 x (List.mem_of_getElem? hx)) (hk.2 y (List.mem_of_getElem? hy))) rfl (Cos.refl _) ?_
    | refine okWrap (w64 (by simp at h hq; omega) (by have := HL; simp at h hq; omega)) ?_
    | refine okAgain (q + 1) (Sv.mk' [] rfl trivial ⟨rfl, rfl, rfl, rfl, rfl, trivial⟩) ⟨by have := (List.getElem?_eq_some_iff.1 hx).1; omega, eqB_go hx hy (by simpa using h) he⟩ (by have := (List.getElem?_eq_some_iff.1 hx).1; omega)
    | refine okOut ?_
    | refine okRet ?_
    | (refine endBool (.inr rfl) rfl ?_; have hl := eqB_no hx hy (by simpa using h); exact hl.symm; done)
    | (have hl := eqB_all hn (by simp at h; omega) he; refine endBool (.inr rfl) rfl ?_; exact hl.symm; done)
theorem eqEntry_s [Wd] (l k : List (EntryD)) (hl : (dL dEntry).ok l) (hk : (dL dEntry).ok k) : FnP Tryz.prog 94 [.list 5 (l.map cEntry), .list 5 (k.map cEntry), .fn 95 0 []] (.bool (eqB l k)) := by
  have HL : l.length ≤ 4194304 := hl.1
  refine mkS 32 [] Tryz.func94 rfl (by kernel_rfl) ?_
  repeat'
    (conv => arg 2; whnf)
    first
    | refine okAsk (by kernel_rfl) ?_
    | refine okBrT ?_
    | refine okBrF ?_
    | refine okBr (fun h => ?_) (fun h => ?_)
    | (refine endBool (.inr rfl) rfl ?_; exact (eqB_len (by simp at h; omega)).symm)
  have hn : l.length = k.length := by simp at h; omega
  refine okLoop (α := Nat) (fun q => ⟨[(17, .int .i64 q), (16, .int .i64 (l.map cEntry).length), (15, .list 5 (l.map cEntry)), (2, .fn 95 0 []), (1, .list 5 (k.map cEntry))], []⟩) (fun q => q ≤ l.length ∧ l.take q = k.take q) (fun q => l.length - q) 0 ⟨Nat.zero_le _, rfl⟩ (Sv.mk' [] rfl trivial ⟨rfl, rfl, rfl, rfl, rfl, trivial⟩) ?_
  rintro q ⟨hq, he⟩
  repeat'
    (conv => arg 2; whnf)
    first
    | refine okAsk (by kernel_rfl) ?_
    | refine okBrT ?_
    | refine okBrF ?_
    | refine okBr (fun h => ?_) (fun h => ?_)
    | refine okNthMap (l := l) (by simp at h; omega) (fun x hx => ?_)
    | refine okNthMap (l := k) (by simp at h; omega) (fun y hy => ?_)
    | refine okFn (sameEntry_s x y (hl.2 x (List.mem_of_getElem? hx)) (hk.2 y (List.mem_of_getElem? hy))) rfl (Cos.refl _) ?_
    | refine okWrap (w64 (by simp at h hq; omega) (by have := HL; simp at h hq; omega)) ?_
    | refine okAgain (q + 1) (Sv.mk' [] rfl trivial ⟨rfl, rfl, rfl, rfl, rfl, trivial⟩) ⟨by have := (List.getElem?_eq_some_iff.1 hx).1; omega, eqB_go hx hy (by simpa using h) he⟩ (by have := (List.getElem?_eq_some_iff.1 hx).1; omega)
    | refine okOut ?_
    | refine okRet ?_
    | (refine endBool (.inr rfl) rfl ?_; have hl := eqB_no hx hy (by simpa using h); exact hl.symm; done)
    | (have hl := eqB_all hn (by simp at h; omega) he; refine endBool (.inr rfl) rfl ?_; exact hl.symm; done)
def flatD (a : MsgD) : List D := [.int .i64 a.kind, .int .i64 a.src, .int .i64 a.client, .int .i64 a.view, .int .i64 a.seq, .int .i64 a.time, .int .i64 a.offset, .int .i64 a.digest, .int .i64 a.result.err, .int .i64 a.result.offset, .str a.topic, .int .i64 a.sign.key, .int .i64 a.sign.digest]
theorem flatOf_s [Wd] (a : MsgD) : FnP Tryz.prog 89 [.agg (cMsg a)] (.agg (flatD a)) := by
  refine mkS 26 [] Tryz.func89 rfl (by kernel_rfl) ?_
  repeat'
    (conv => arg 2; whnf)
    first
    | refine okAsk (by kernel_rfl) ?_
    | refine okBrT ?_
    | refine okBrF ?_
    | refine okBr (fun h => ?_) (fun h => ?_)
    | refine endFn0 (.inr rfl) rfl (.refl _) rfl
theorem mSame_s [Wd] (a b : MsgD) (ha : dMsg.ok a) (hb : dMsg.ok b) : FnP Tryz.prog 54 [.agg (cMsg a), .agg (cMsg b)] (.bool (eqB a b)) := by
  refine mkS 52 [(1, ⟨[(0, false), (2, false), (1, true), (3, true), (4, false), (5, false), (6, false), (7, false), (8, false), (9, false), (10, true), (11, false), (12, false), (13, false), (14, false), (15, false), (16, false), (17, true), (18, false), (19, false), (20, false), (21, false), (22, false), (23, false), (24, true), (25, false), (26, false), (27, false), (28, false), (29, false), (30, false), (31, true), (32, false), (33, false), (34, false), (35, false), (36, false), (37, false), (38, true), (39, false), (40, false), (41, false), (42, false), (43, false), (44, false), (45, true), (46, false), (47, false)], []⟩)] Tryz.func54 rfl (by kernel_rfl) ?_
  repeat'
    (conv => arg 2; whnf)
    first
    | refine okAsk (by kernel_rfl) ?_
    | refine okBrT ?_
    | refine okBrF ?_
    | refine okBr (fun h => ?_) (fun h => ?_)
    | refine okFn (flatOf_s _) rfl (Cos.refl _) ?_
    | refine okFn (qSame_s a.batch b.batch ha.2.2.2.2.2.2.2.2.1 hb.2.2.2.2.2.2.2.2.1) rfl (Cos.refl _) ?_
    | refine okFn (sameCert_s a.cert b.cert ha.2.2.2.2.2.2.2.2.2.1 hb.2.2.2.2.2.2.2.2.2.1) rfl (Cos.refl _) ?_
    | refine okFn (eqChange_s a.changes b.changes ha.2.2.2.2.2.2.2.2.2.2.1 hb.2.2.2.2.2.2.2.2.2.2.1) rfl (Cos.refl _) ?_
    | refine okFn (eqEntry_s a.entries b.entries ha.2.2.2.2.2.2.2.2.2.2.2.1 hb.2.2.2.2.2.2.2.2.2.2.2.1) rfl (Cos.refl _) ?_
    | refine okFn (bEq_s a.state b.state ha.2.2.2.2.2.2.2.2.2.2.2.2.1 hb.2.2.2.2.2.2.2.2.2.2.2.2.1) rfl (Cos.refl _) ?_
    | refine okFn (sameProof_s a.proof b.proof ha.2.2.2.2.2.2.2.2.2.2.2.2.2.2.2.1 hb.2.2.2.2.2.2.2.2.2.2.2.2.2.2.2.1) rfl (Cos.refl _) ?_
    | (refine endBool (.inr rfl) rfl ?_; rw [msg_eqB]; simp_all; done)
    | (exfalso; simp_all; done)
theorem sSame_s [Wd] (a b : ActD) (ha : dAct.ok a) (hb : dAct.ok b) : FnP Tryz.prog 22 [.agg (cAct a), .agg (cAct b)] (.bool (eqB a b)) := by
  refine mkS 52 [] Tryz.func22 rfl (by kernel_rfl) ?_
  repeat'
    (conv => arg 2; whnf)
    first
    | refine okAsk (by kernel_rfl) ?_
    | refine okBrT ?_
    | refine okBrF ?_
    | refine okBr (fun h => ?_) (fun h => ?_)
    | refine okFn (oSame_s a.op b.op ha.2.2.2.1 hb.2.2.2.1) rfl (Cos.refl _) ?_
    | refine okFn (bEq_s a.bytes b.bytes ha.2.2.2.2.1 hb.2.2.2.2.1) rfl (Cos.refl _) ?_
    | refine okFn (mSame_s a.msg b.msg ha.2.2.2.2.2.1 hb.2.2.2.2.2.1) rfl (Cos.refl _) ?_
    | (refine endBool (.inr rfl) rfl ?_; rw [act_eqB]; simp_all; done)
    | (exfalso; simp_all; done)
end Go.Proofs.YtafomdobfmmleaaGreatDoor

/- Which operations, batches, messages are the same, over data: the reference's side (printed by gen_ar.py). -/
namespace Go.Proofs.YtafomdobfmmleaaGreatDoor
open Go.RowKit
set_option linter.unusedVariables false
set_option maxRecDepth 20000

theorem okNthAt [Wd] {P : Program} {Q : Exit → S → Prop} {α : Type} {l : List α} {f : α → List D} {q : Nat} {x : α} {c : List D → T} (hx : l[q]? = some x) (h : (c (f x)).ok P Q) : (T.nth (l.map f) (q : Int) c).ok P Q :=
  ⟨f x, Int.natCast_nonneg q, by simp [hx], h⟩
end Go.Proofs.YtafomdobfmmleaaGreatDoor

/- From contracts over data back to contracts over readings; what yields new bytes. -/
namespace Go.Proofs.YtafomdobfmmleaaGreatDoor
open Go.RowKit
set_option linter.unusedVariables false

/-- data lie in blocks that are -/
theorem Dr.lt [Old] {I : Nat → Prop} {w : World} {v : Value} {d : D} (h : Dr I w v d) : Dr (fun b => I b ∧ b < w.heap.size) w v d := by
  induction h with
  | bool b => exact .bool b
  | int k n => exact .int k n
  | str s => exact .str s
  | nils => exact .nils
  | nilp => exact .nilp
  | nilf => exact .nilf
  | nilm => exact .nilm
  | list A cap n l xs U hl0 hl hm hnone hlen hA h1 hU ih =>
    exact .list A cap n l xs U hl0 hl hm hnone hlen (fun h0 => by
      obtain ⟨b, off, e, k1, k2, k3⟩ := hA h0
      exact ⟨b, off, e, k1, ⟨k2, k1⟩, k3⟩) h1 ih
  | own A cap n l xs U hl0 hl hm hnone hlen hA h1 hU ih =>
    exact .own A cap n l xs U hl0 hl hm hnone hlen (fun h0 => by
      obtain ⟨b, off, e, k1, k2, k3⟩ := hA h0
      exact ⟨b, off, e, k1, ⟨k2, k1⟩, k3⟩) h1 ih
  | ref b off cs U hI hb hc h1 hU ih => exact .ref b off cs U ⟨hI, hb⟩ hb hc h1 ih
  | agg vs ds hl h1 h ih => exact .agg vs ds hl h1 ih
  | tup vs ds hl h ih => exact .tup vs ds hl ih
  | fn f n vs ds hl h ih => exact .fn f n vs ds hl ih
theorem Drs.lt [Old] {I : Nat → Prop} {w : World} {vs : List Value} {ds : List D} (h : Drs I w vs ds) : Drs (fun b => I b ∧ b < w.heap.size) w vs ds :=
  ⟨h.1, fun i v d h1 h2 => (h.2 i v d h1 h2).lt⟩
/-- what a function that only computes answers, over data -/
theorem FnP.calls [Wd] [NoPan] {P : Program} {f : FuncId} {ar : List D} {r : D} (hF : FnP P f ar r) {I : Nat → Prop} {w : World} {vs : List Value} (hd : Drs I w vs ar) (hW : Wd.W (fun b => I b ∧ b < w.heap.size) w) :
    Calls P f vs.toArray w fun e w' => ∃ v I', e = .returned v ∧ B w w' ∧ Vr I' [] w' v r ∧ (∀ b, I' b → (I b ∧ b < w.heap.size) ∨ w.heap.size ≤ b) ∧ ∀ b, I' b → b < w'.heap.size := by
  have hd' := hd.lt
  have hD : Den (fun b => I b ∧ b < w.heap.size) [] w [] := ⟨rfl, fun b h => h.2, fun o ao p h => by simp at h, fun o ao p b h => by simp at h, fun o o' ao ao' p p' b h => by simp at h⟩
  have hn : ∀ b, ¬ Owned [] [] b := fun b ⟨o, ao, p, h, _⟩ => by simp at h
  refine (hF.2 w _ [] vs hW hD ⟨hd'.1, fun i v d h1 h2 => .rd (hd'.2 i v d h1 h2)⟩).mono ?_
  rintro e w' (⟨v, I', g', r', h', rfl, ⟨rfl, rfl⟩, hD', hv, hx, i1, i2, ow, gk⟩ | ⟨ch, _, hp, _⟩)
  case inr => exact absurd hp (NoPan.np ch)
  have hg : g' = [] := List.eq_nil_of_length_eq_zero hD'.len
  subst hg
  refine ⟨v, I', rfl, hx.to_B (fun b _ ho => hn b ho), hv, fun b hb => ?_, hD'.inn⟩
  rcases i2 b hb with k | k | k
  · exact .inl k
  · exact absurd k (hn b)
  · exact .inr k
theorem FnP.callsBool [Wd] [NoPan] {P : Program} {f : FuncId} {ar : List D} {n : Bool} (hF : FnP P f ar (.bool n)) {I : Nat → Prop} {w : World} {vs : List Value} (hd : Drs I w vs ar) (hW : Wd.W (fun b => I b ∧ b < w.heap.size) w) :
    Calls P f vs.toArray w fun e w' => e = .returned (.bool n) ∧ B w w' :=
  (hF.calls hd hW).mono (by
    rintro e w' ⟨v, I', rfl, hb, hv, _⟩
    exact ⟨by rw [hv.bool_inv], hb⟩)
/-- a struct of readings as an argument -/
theorem Lk.arg [Old] {α : Type} {T : Ty α} {A : Dt α} (L : Lk T A) {inn : Nat → Prop} {w : World} {cs : List Value} {a : α} (h : T.rd inn w cs a) : Drs inn w [.agg cs.toArray] [.agg (A.c a)] := by
  obtain ⟨h1, _, h3⟩ := L.to h
  exact .one (.agg cs _ h1.1 h3 h1.2)
end Go.Proofs.YtafomdobfmmleaaGreatDoor

/- Which operations, messages and acts are the same, over readings. -/
namespace Go.Proofs.YtafomdobfmmleaaGreatDoor
open Go.RowKit
set_option linter.unusedVariables false

theorem Lk.arg2 [Old] {α : Type} {T : Ty α} {A : Dt α} (L : Lk T A) {inn inn' : Nat → Prop} {w : World} {cs ds : List Value} {a b : α} (h : T.rd inn w cs a) (k : T.rd inn' w ds b) : Drs (fun g => inn g ∨ inn' g) w [.agg cs.toArray, .agg ds.toArray] [.agg (A.c a), .agg (A.c b)] := by
  obtain ⟨h1, _, h3⟩ := L.to (T.mono (inn' := fun g => inn g ∨ inn' g) h (fun g hg => .inl hg))
  obtain ⟨k1, _, k3⟩ := L.to (T.mono (inn' := fun g => inn g ∨ inn' g) k (fun g hg => .inr hg))
  exact (Drs.one (.agg cs _ h1.1 h3 h1.2)).append (Drs.one (.agg ds _ k1.1 k3 k1.2))
section
variable {inn inn' : Nat → Prop} {w : World} {cs ds : List Value}
theorem oSame_c {a b : OpD} (h : tOp.rd inn w cs a) (k : tOp.rd inn' w ds b) : Calls Tryz.prog 53 #[.agg cs.toArray, .agg ds.toArray] w fun e w' => e = .returned (.bool (sameOp a b)) ∧ B w w' := by
  rw [sameOp_eqB]
  exact (oSame_s a b (LkOp.to h).2.1 (LkOp.to k).2.1).callsBool (LkOp.arg2 h k) trivial
theorem sSame_c {a b : ActD} (h : tAct.rd inn w cs a) (k : tAct.rd inn' w ds b) : Calls Tryz.prog 22 #[.agg cs.toArray, .agg ds.toArray] w fun e w' => e = .returned (.bool (eqB a b)) ∧ B w w' :=
  (sSame_s a b (LkAct.to h).2.1 (LkAct.to k).2.1).callsBool (LkAct.arg2 h k) trivial
end
end Go.Proofs.YtafomdobfmmleaaGreatDoor

/- Operations: what may be (op.Check). -/
namespace Go.Proofs.YtafomdobfmmleaaGreatDoor
open Go.RowKit Go.Deep
set_option linter.unusedVariables false

theorem tY.le {inn : Nat → Prop} {w : World} {v : Value} {a : List UInt8} (h : tY.rd inn w [v] a) : a.length ≤ 4194304 := by
  obtain ⟨u, e, hb, _, h⟩ := h
  exact h
theorem chk1_c {w : World} {v : Value} {a : List UInt8} (h : Bs w v a) : Calls Tryz.prog 151 #[v] w fun e w' => e = .returned (.bool (decide (64 < a.length))) ∧ w = w' := by
  obtain ⟨A, c, rfl⟩ := h.rd.slice
  have hl := h.len
  have hl2 : (a.length : Int) ≤ 9223372036854775807 := by unfold big at hl; omega
  clear h hl
  generalize a.length = n at *
  by_cases hn : 64 < n
  · have g : (64 : Int) < n := by omega
    have E := Lib.hid (decide_eq_true hn)
    clear hn
    go_enter Tryz.func151, Tryz.ntmps151
    go_wp2
    go_ret
    exact ⟨by simp [E.out], rfl⟩
  · have g : ¬ (64 : Int) < n := by omega
    have E := Lib.hid (decide_eq_false hn)
    clear hn
    go_enter Tryz.func151, Tryz.ntmps151
    go_wp2
    go_ret
    exact ⟨by simp [E.out], rfl⟩
set_option maxRecDepth 20000 in
set_option maxHeartbeats 2000000 in
theorem index_c {inn : Nat → Prop} {w : World} {v : Value} {s : List (List UInt8)} (h : (tL tY).rd inn w [v] s) :
    Calls Tryz.prog 203 #[v, .func (.func 151) #[] #[]] w fun e w' => ∃ k : Int, e = .returned (.int .i64 k) ∧ decide (0 ≤ k) = (s.any fun r => decide (64 < r.length)) ∧ w = w' := by
  obtain ⟨A, c, e1, hs⟩ := tL.slice h
  injection e1 with e1 _
  subst e1
  have HR := Lib.hid h
  obtain ⟨l, hl0⟩ : ∃ l, s.length = l := ⟨_, rfl⟩
  have HL0 := Lib.hid hl0
  rw [hl0] at hs ⊢
  clear h hl0
  go_enter Tryz.func203, Tryz.ntmps203
  go_wp2_with fail
  go_loop [5, 8] (fun _ i => ∃ q : Nat, q ≤ l ∧ i = .int .i64 q ∧ Hid (∀ j x, j < q → s[j]? = some x → ¬ 64 < x.length)) (fun _ i => l - (intOf i).toNat)
  case atStart => exact ⟨0, Nat.zero_le _, rfl, fun j x h => by omega⟩
  case round =>
    obtain ⟨q, hq, rfl, HP⟩ := hrel
    by_cases hlt : q < l
    · obtain ⟨x, hx⟩ : ∃ x, s[q]? = some x := ⟨_, List.getElem?_eq_getElem (by have := HL0.out; omega)⟩
      obtain ⟨_, b, off, cs, rfl, r1, k1⟩ := tL.at HR.out hx
      obtain ⟨u1, rfl⟩ := len1 (tY.len r1)
      have c1 := k1 0 _ rfl
      simp only [show tY.n = 1 from rfl, Nat.mul_one, Nat.add_zero] at c1
      have HC := Lib.hid (chk1_c (tY.bs r1))
      have HS := Lib.hid hx
      have hqi : (q : Int) < l := by omega
      clear r1 k1 hx
      by_cases e1 : 64 < x.length
      · rw [decide_eq_true e1] at HC
        have E := Lib.hid (show decide ((0 : Int) ≤ q) = (s.any fun r => decide (64 < r.length)) from by
          rw [decide_eq_true (by omega : (0 : Int) ≤ q)]
          symm
          rw [List.any_eq_true]
          exact ⟨x, List.mem_of_getElem? HS.out, decide_eq_true e1⟩)
        clear e1
        go_wp2_with (first | (go_at_call 151; (with_reducible refine HC.out.mono ?_); rintro e w1 ⟨rfl, rfl⟩))
        go_ret
        exact ⟨_, rfl, E.out, rfl⟩
      · rw [decide_eq_false e1] at HC
        have E := Lib.hid e1
        clear e1
        go_wp2_with (first | (go_at_call 151; (with_reducible refine HC.out.mono ?_); rintro e w1 ⟨rfl, rfl⟩))
        go_round
        case rel => exact ⟨q + 1, by omega, by go_num, fun j y hj hy => by
          by_cases e : j = q
          · rw [e, HS.out] at hy; injection hy with hy; rw [← hy]; exact E.out
          · exact HP.out j y (by omega) hy⟩
        case measure => simp [intOf]; omega
    · have hqi : ¬ (q : Int) < l := by omega
      have E := Lib.hid (show decide ((0 : Int) ≤ -1) = (s.any fun r => decide (64 < r.length)) from by
        rw [decide_eq_false (by omega : ¬ (0 : Int) ≤ -1)]
        symm
        rw [List.any_eq_false]
        intro x hx
        obtain ⟨j, hj⟩ := List.getElem?_of_mem hx
        have hjl : j < s.length := by
          rcases Nat.lt_or_ge j s.length with h' | h'
          · exact h'
          · rw [List.getElem?_eq_none h'] at hj; cases hj
        simpa using HP.out j x (by have := HL0.out; omega) hj)
      go_wp2_with fail
      go_ret
      exact ⟨_, rfl, E.out, rfl⟩
theorem contains_c {inn : Nat → Prop} {w : World} {v : Value} {s : List (List UInt8)} (h : (tL tY).rd inn w [v] s) :
    Calls Tryz.prog 152 #[v, .func (.func 151) #[] #[]] w fun e w' => e = .returned (.bool (s.any fun r => decide (64 < r.length))) ∧ w = w' := by
  have HI := Lib.hid (index_c h)
  clear h
  generalize (s.any fun r => decide (64 < r.length)) = z at *
  go_enter Tryz.func152, Tryz.ntmps152
  go_wp2_with (first | (go_at_call 203; (with_reducible refine HI.out.mono ?_); rintro e w1 ⟨k, rfl, hk, rfl⟩; rcases (show (z = true ∧ 0 ≤ k) ∨ (z = false ∧ ¬ 0 ≤ k) from by cases z <;> simp at hk <;> simp <;> omega) with ⟨rfl, hk2⟩ | ⟨rfl, hk2⟩))
  all_goals
    go_ret
    exact ⟨by simp, rfl⟩
theorem Blk.new2 (w : World) (o : Obj) (t : TypeId) (cs : Array Value) : Blk ((w.alloc o).alloc (.cells cs t)) (w.heap.size + 1) t cs := by simpa using Blk.new (w.alloc o) t cs
/-- a function whose results are a cell's row and a slot ends -/
theorem post_cell_tmp {P : Program} {fn : Func} {R : Ending → World → Prop} {a : Act} {w : World} {p u : Tmp} {ty t : TypeId} {g : Nat} {cs : Array Value} {d : TypeDesc} (h : fn.results = #[.cell p ty, .tmp u])
    (hp : a.tmps.getD p undef = .pointer (some ⟨g, 0, none⟩)) (hg : Blk w g t cs) (hu : P.underlying ty = some d) (hd : (match d with | .struct _ | .array _ _ => true | _ => false) = true) (hi : (P.info? ty).map (·.size) = some cs.size)
    (hdf : a.defers = []) (hR : R (.returned (.tuple #[.agg cs, a.tmps.getD u undef])) w) : bodyPost P fn R .ret a w := by
  refine bodyPost_ret (v := .tuple #[.agg cs, a.tmps.getD u undef]) ?_ hdf hR
  rw [results_cell_tmp h, hp]
  simp only [asAddr, Sem.run_pure, Result.andThen]
  rw [run_loadVar_row (P := P) w g t ty cs (0, 0) d hg hu hd hi]
set_option maxRecDepth 20000 in
set_option maxHeartbeats 4000000 in
theorem only_c {inn : Nat → Prop} {w : World} {cs : List Value} {a : OpD} (h : tOp.rd inn w cs a) :
    Calls Tryz.prog 150 #[.agg cs.toArray] w fun e w' => ∃ ds : List Value, e = .returned (.tuple #[.agg ds.toArray, .bool (kindOk a)]) ∧ tOp.rd inn w' ds (onlyF a) ∧ B w w' := by
  obtain ⟨v5, rfl, a1, a2, a3, a4, a5⟩ := tOp.parts h
  obtain ⟨kind, topic, group, offset, records⟩ := a
  simp only at *
  have H2 := Lib.hid a2
  have H3 := Lib.hid a3
  have H4 := Lib.hid a4
  have H5 := Lib.hid (fun w' (hb : B w w') => (tL tY).later a5 hb)
  have HN := Lib.hid (fun w' => show (tL tY).rd inn w' [.slice none 0 0] [] from ⟨none, 0, rfl, Nat.le_refl _, by unfold maxLen; omega, fun _ => ⟨rfl, rfl⟩, by simp, fun h0 => by simp at h0⟩)
  have hc : kind = 0 ∨ kind = 1 ∨ kind = 2 ∨ kind = 3 ∨ kind = 4 ∨ (kind < 0 ∨ 4 < kind) := by omega
  obtain ⟨A5, c5, e5, _⟩ := tL.slice a5
  injection e5 with e5 _
  subst e5
  clear h a2 a3 a4 a5
  rcases hc with rfl | rfl | rfl | rfl | rfl | hc
  · clear a1
    go_enter Tryz.func150, Tryz.ntmps150
    go_wp2
    exact post_cell_tmp rfl rfl ((Blk.new2 _ _ _ _).alloc _) Tryz.underlying40 rfl (by kernel_rfl) rfl ⟨_, rfl, tOp.mk (s := ⟨0, [], [], 0, []⟩) (by simp only; omega) (by simp) (by simp) (by simp) (HN.out _), BB.out⟩
  · clear a1
    go_enter Tryz.func150, Tryz.ntmps150
    go_wp2
    exact post_cell_tmp rfl rfl ((Blk.new2 _ _ _ _).alloc _) Tryz.underlying40 rfl (by kernel_rfl) rfl ⟨_, rfl, tOp.mk (s := ⟨1, topic, [], 0, []⟩) (by simp only; omega) H2.out (by simp) (by simp) (HN.out _), BB.out⟩
  · clear a1
    go_enter Tryz.func150, Tryz.ntmps150
    go_wp2
    go_region_with (fail)
    all_goals
      go_wp2
      exact post_cell_tmp rfl rfl ((Blk.new2 _ _ _ _).alloc _) Tryz.underlying40 rfl (by kernel_rfl) rfl ⟨_, rfl, tOp.mk (s := ⟨2, topic, [], 0, records⟩) (by simp only; omega) H2.out (by simp) (by simp) (H5.out _ BB.out), BB.out⟩
  · clear a1
    go_enter Tryz.func150, Tryz.ntmps150
    go_wp2
    go_region_with (fail)
    all_goals
      go_wp2
      exact post_cell_tmp rfl rfl ((Blk.new2 _ _ _ _).alloc _) Tryz.underlying40 rfl (by kernel_rfl) rfl ⟨_, rfl, tOp.mk (s := ⟨3, topic, group, offset, []⟩) (by simp only; omega) H2.out H3.out H4.out (HN.out _), BB.out⟩
  · clear a1
    go_enter Tryz.func150, Tryz.ntmps150
    go_wp2
    go_region_with (fail)
    all_goals
      go_wp2
      exact post_cell_tmp rfl rfl ((Blk.new2 _ _ _ _).alloc _) Tryz.underlying40 rfl (by kernel_rfl) rfl ⟨_, rfl, tOp.mk (s := ⟨4, topic, [], offset, []⟩) (by simp only; omega) H2.out (by simp) H4.out (HN.out _), BB.out⟩
  · have g0 : (kind == 0) = false := by simp; omega
    have g1 : (kind == 1) = false := by simp; omega
    have g2 : (kind == 2) = false := by simp; omega
    have g3 : (kind == 3) = false := by simp; omega
    have g4 : (kind == 4) = false := by simp; omega
    have HA := Lib.hid a1
    have EK := Lib.hid (show kindOk ⟨kind, topic, group, offset, records⟩ = false from decide_eq_false (by simp only; omega))
    have EO := Lib.hid (show onlyF ⟨kind, topic, group, offset, records⟩ = ⟨kind, [], [], 0, []⟩ from by unfold onlyF; simp only; rw [if_neg (by omega), if_neg (by omega), if_neg (by omega), if_neg (by omega)])
    clear hc a1
    go_enter Tryz.func150, Tryz.ntmps150
    go_wp2
    refine post_cell_tmp rfl rfl ((Blk.new2 _ _ _ _).alloc _) Tryz.underlying40 rfl (by kernel_rfl) rfl ?_
    rw [EK.out, EO.out]
    exact ⟨_, rfl, tOp.mk (s := ⟨kind, [], [], 0, []⟩) HA.out (by simp) (by simp) (by simp) (HN.out _), BB.out⟩
end Go.Proofs.YtafomdobfmmleaaGreatDoor
