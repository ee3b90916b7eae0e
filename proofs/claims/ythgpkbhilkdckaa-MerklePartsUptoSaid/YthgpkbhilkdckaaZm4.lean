/- Lemmas and contracts, part 4. -/
import Derived.Test.YthgpkbhilkdckaaZm3
/- MerkleComplete: the walk. -/
namespace Go.Proofs.Ythgpkbhilkdckaa
open Go.RowKit Go.Deep
set_option linter.unusedVariables false

theorem St.ver103 {W w : World} {p : Nat} {M : List (List UInt8)} {X : List Asn} {v vb : Value} {b : List UInt8} {xs : List Int} (h : St W w (aTab p M :: X)) (hM : M.length ≤ 1048576) (hb : Bs w vb b) (hbl : b.length + 1 ≤ big) (hI : Is w v xs) (rt i n : Int) (hi63 : i ≤ 9223372036854775807) (hn63 : n ≤ 9223372036854775807) :
    Calls Try.prog 103 #[.pointer (some ⟨p, 0, none⟩), .int .i64 rt, vb, .int .i64 i, .int .i64 n, v] w fun e w' => e = .returned (.bool (verF M rt b i n xs)) ∧ St W w' (aTab p M :: X) := by
  obtain ⟨own, ht, _⟩ := h.get
  exact (verify103 (M := M) ht hM hb hbl hI rt i n hi63 hn63).mono fun e w' ⟨he, hb⟩ => ⟨he, h.later hb⟩
theorem St.ver105 {W w : World} {p : Nat} {M : List (List UInt8)} {X : List Asn} {v vb : Value} {b : List UInt8} {xs : List Int} (h : St W w (aRef p M :: X)) (hM : M.length ≤ 1048576) (hb : Bs w vb b) (hbl : b.length + 1 ≤ big) (hI : Is w v xs) (rt i n : Int) (hi63 : i ≤ 9223372036854775807) (hn63 : n ≤ 9223372036854775807) :
    Calls Try.prog 105 #[.pointer (some ⟨p, 0, none⟩), .int .i64 rt, vb, .int .i64 i, .int .i64 n, v] w fun e w' => e = .returned (.bool (verF M rt b i n xs)) ∧ St W w' (aRef p M :: X) := by
  obtain ⟨own, ht, _⟩ := h.get
  exact (verify105 (M := M) ht hM hb hbl hI rt i n hi63 hn63).mono fun e w' ⟨he, hb⟩ => ⟨he, h.later hb⟩
theorem ver_known {M L : List (List UInt8)} (hk : Known M L) (k : Nat) (hkl : k < L.length) {b : List UInt8} {ps : List Int} (h1 : ps.length = lenW k L.length) (h2 : comesF M b k L.length ps = (lkN M (tipB M L), true)) : verF M (lkN M (tipB M L)) b k L.length ps = true := by
  unfold verF
  rw [if_neg (by
    rintro (h | h | h)
    · omega
    · omega
    · apply h; rw [h1]; unfold lenF; rw [if_neg (by omega)]; simp)]
  simp [h2]
theorem complete_law (L : List (List UInt8)) (h : L.length ≤ 40) (k : Nat) (hk : k < L.length) : ∃ ps, proveF (rootF [] L).2 k L = (ps, (rootF [] L).2) ∧ ps.length = lenF k L.length ∧ verF (rootF [] L).2 (rootF [] L).1 L[k] k L.length ps = true ∧ (∀ x ∈ ps, x ≤ 9223372036854775807) := by
  obtain ⟨N1, e1, l1, k1, r1⟩ := root_known _ L rfl [] (by simp; omega)
  obtain ⟨ps, h1, h2, h3⟩ := prove_known k1 k _ (List.getElem?_eq_getElem hk)
  have hb := (proveF_bd _ L rfl k (rootF [] L).2 (rootF_bd _ L rfl [] (by simp)).1).2.2
  rw [h1] at hb
  refine ⟨ps, h1, ?_, ?_, fun x hx => by have := hb x hx; omega⟩
  · rw [h2]; unfold lenF; rw [if_neg (by omega)]; simp
  · rw [r1]; exact ver_known k1 k hk h2 h3
set_option maxRecDepth 20000 in
set_option maxHeartbeats 4000000 in
theorem complete_walk {W : World} {A : Option Addr} {c m n u : Nat} {L : List (List UInt8)} (hu : Lss (fun g => g < W.heap.size) W (.slice A n c) L) (hL : L.length = n) (hn : n ≤ 40) (hlen : ∀ x ∈ L, x.length + 1 ≤ big)
    (hmn : (m : Int) ≤ 40 ∧ n = m ∨ ¬ (m : Int) ≤ 40 ∧ n = 40) (hu8 : u < 256)
    (r1 : ∀ w' : World, (Instr.slice 46 (.slice A m c) none (some (.int .i64 (n : Int))) none).run Try.prog w' = .ok (.slice A n c) w')
    (r2 : ∀ w' : World, (Instr.sliceAt 46 (.slice A m c) none (some (.int .i64 (n : Int))) none).run Try.prog w' = .ok (.slice A n c) w') :
    Calls Try.prog 17 #[.slice A m c, .int .u8 (u : Int)] W fun e w' => e = .returned (.bool true) ∧ B W w' := by
  have HL := Lib.hid (live91 (St.nil W))
  by_cases h0 : n = 0
  · have hmn0 : (m : Int) ≤ 40 ∧ m = 0 := by omega
    obtain ⟨h40, rfl⟩ := hmn0
    subst h0
    clear hu hlen hmn hL hn
    go_enter Try.func17, Try.ntmps17
    go_wp2_with (first
      | (go_at_call 91; (with_reducible refine HL.out.mono ?_); rintro e w1 ⟨rfl, hS⟩; have H1 := Lib.hid hS; clear hS))
    go_ret
    exact ⟨rfl, H1.out.b⟩
  · obtain ⟨k, hk⟩ : ∃ k, u % n = k := ⟨_, rfl⟩
    have hkn : k < n := by rw [← hk]; exact Nat.mod_lt _ (by omega)
    have q1 : Int.tmod (u : Int) (n : Int) = (k : Int) := by rw [← hk]; rfl
    have q2 : (u : Int) % (n : Int) = (k : Int) := by rw [← hk]; rfl
    have q3 : ((n : Int) == 0) = false := by rw [beq_eq_false_iff_ne]; omega
    have q4 : ¬ (n : Int) = 0 := by omega
    obtain ⟨b, off, rfl, hb1, hin, hc⟩ : ∃ b off, A = some ⟨b, off, none⟩ ∧ b < W.heap.size ∧ True ∧ ∀ i x, L[i]? = some x → ∃ v, W.cell? ⟨b, off + i, none⟩ = some v ∧ Bs W v x := by
      obtain ⟨A', c', e, _, _, _, hr⟩ := id hu
      injection e with e1 e2 e3
      subst e1
      obtain ⟨b, off, e4, h1, h2, h3⟩ := hr (by omega)
      exact ⟨b, off, e4, h1, trivial, fun i x hx => by obtain ⟨v, k1, k2, _⟩ := h3 i x hx; exact ⟨v, k1, k2⟩⟩
    have hkL : k < L.length := by omega
    obtain ⟨vk, hc1, hc2⟩ := hc k _ (List.getElem?_eq_getElem hkL)
    obtain ⟨ps, p1, p2, p3, p4⟩ := complete_law L (by omega) k hkL
    have HBK := Lib.hid hc2
    have HCK := Lib.hid hc1
    have HLK := Lib.hid (hlen _ (List.getElem_mem hkL))
    generalize L[k] = x at *
    have HT := Lib.hid (fun (w : World) (h : St W w []) => show Calls Try.prog 92 #[.slice none 0 0] w fun e w' => ∃ p r, e = .returned (.tuple #[.pointer (some ⟨p, 0, none⟩), .pointer (some ⟨r, 0, none⟩)]) ∧ St W w' [aTab p [], aRef r []] from tables92 (Lss.nil _ W) h)
    have HR := Lib.hid (fun (w : World) (p r : Nat) (h : St W w [aTab p [], aRef r []]) => St.root101 n L hL hlen [] w (some ⟨b, off, none⟩) c (by simp) (fun w' M' h' => ⟨_, hu.later h'.b⟩) h)
    have hM1 := (rootF_bd _ L rfl [] (by simp)).1
    have hF1 := rootF_from _ L rfl [] (by decide)
    rw [hL] at p2 p3
    generalize rootF [] L = dT at *
    obtain ⟨d, T1⟩ := dT
    simp only at hM1 HR hF1 p1 p3
    have HP := Lib.hid (fun (w : World) (p r : Nat) (h : St W w [aTab p T1, aRef r []]) => St.prove102 L n hL (by omega) hlen k T1 w (some ⟨b, off, none⟩) c hkn hM1 hF1 (fun w' M' h' => ⟨_, hu.later h'.b⟩) h)
    rw [p1] at HP
    have hpl : ((ps.length : Int) == (lenF k n : Int)) = true := by rw [p2]; simp
    have HLN := Lib.hid (fun w => length99 w k n (by omega) (by omega))
    have HV := Lib.hid (fun (w : World) (p r : Nat) (v : Value) (h : St W w [aTab p T1, aDg v ps, aRef r []]) => St.ver103 h hM1 (HBK.out.later h.b) HLK.out (h.swap.dgIs p4) d k n (by omega) (by omega))
    rw [p3] at HV
    generalize lenF k n = lf at *
    have HP4 := Lib.hid p4
    have hkni : (k : Int) < n := by omega
    clear hu hlen hL hn hc hc1 hc2 hin hM1 hF1 p1 p2 p3 hkL HBK p4
    have e40 : ((40 : Nat) : Int) = 40 := rfl
    rcases hmn with ⟨h40, rfl⟩ | ⟨h40, rfl⟩
    case' inr => rw [e40] at r1 r2 q1 q2 q3 q4 hkni HLN HV
    all_goals
      clear e40
      go_enter Try.func17, Try.ntmps17
      go_wp2_with (first
        | (go_at_call 91; (with_reducible refine HL.out.mono ?_); rintro e w1 ⟨rfl, hS⟩; have H1 := Lib.hid hS; clear hS)
        | (go_at_call 92; (with_reducible refine (HT.out _ H1.out).mono ?_); rintro e w2 ⟨p, r, rfl, hS⟩; have H2 := Lib.hid hS; clear hS)
        | (go_at_call 101; (with_reducible refine (HR.out _ _ _ H2.out).mono ?_); rintro e w3 ⟨rfl, hS⟩; have H3 := Lib.hid hS; clear hS)
        | (go_at_call 102; (with_reducible refine (HP.out _ _ _ H3.out).mono ?_); rintro e w4 ⟨v4, rfl, hS⟩; obtain ⟨A4, c4, rfl⟩ := St.rowSlice hS; have H4 := Lib.hid hS.swap; clear hS; have hcell := H4.out.b.cell HCK.out)
        | (go_at_call 99; (with_reducible refine (HLN.out _).mono ?_); rintro e w5 ⟨rfl, rfl⟩)
        | (go_at_call 103; (with_reducible refine (HV.out _ _ _ _ H4.out).mono ?_); rintro e w6 ⟨rfl, hS⟩; have H6 := Lib.hid hS; clear hS))
    all_goals
      go_ret
      exact ⟨rfl, H6.out.b⟩
end Go.Proofs.Ythgpkbhilkdckaa

/- Merkle: rows of cells, and what a table that knows a list says of proofs. -/
namespace Go.Proofs.Ythgpkbhilkdckaa
open Go.RowKit Go.Deep
set_option linter.unusedVariables false

theorem addr_at (g o j : Nat) : (⟨g, o, none⟩ : Addr).add j = ⟨g, o + j, none⟩ := by unfold Addr.add; split <;> simp_all
/-- a list of byte strings as cells -/
theorem Lss.rd {inn : Nat → Prop} {w : World} {v : Value} {L : List (List UInt8)} (h : Lss inn w v L) : ∃ vals : List Value, Rd w v L.length 1 vals ∧ ∀ (j : Nat) (x : List UInt8), L[j]? = some x → ∃ u, vals[j]? = some u ∧ Bs w u x := by
  obtain ⟨A, c, rfl, hn, hc, hm, hr⟩ := h
  by_cases h0 : 0 < L.length
  · obtain ⟨b, off, rfl, hb, _, hx⟩ := hr h0
    obtain ⟨vals, h1, h2⟩ := list_choose (P := fun i (u : Value) => w.cell? ⟨b, off + i, none⟩ = some u ∧ ∀ x, L[i]? = some x → Bs w u x) L.length (fun i hi => by
      obtain ⟨u, k1, k2, _⟩ := hx i _ (List.getElem?_eq_getElem hi)
      exact ⟨u, k1, fun x hx' => by rw [List.getElem?_eq_getElem hi] at hx'; injection hx' with e; rw [← e]; exact k2⟩)
    refine ⟨vals, ⟨by omega, _, c, rfl, fun e => (by cases e), hc, fun ad had => ?_⟩, fun j x hjx => ?_⟩
    · injection had with had
      subst had
      exact ⟨fun _ => hb, fun j u hj => by rw [addr_at]; exact (h2 j u hj).1⟩
    · have hj : j < L.length := by
        rcases Nat.lt_or_ge j L.length with h | h
        · exact h
        · rw [List.getElem?_eq_none h] at hjx; cases hjx
      have hv : vals[j]? = some (vals[j]'(by omega)) := List.getElem?_eq_getElem (by omega)
      exact ⟨_, hv, (h2 j _ hv).2 x hjx⟩
  · have e : L = [] := List.eq_nil_of_length_eq_zero (by omega)
    subst e
    exact ⟨[], ⟨by simp, A, c, rfl, fun e => ⟨rfl, (hn e).2⟩, by simp, fun ad had => ⟨fun h => absurd h (by simp), fun j u hj => by simp at hj⟩⟩, fun j x hx => by simp at hx⟩
theorem St.rowSome {W w : World} {e : TypeId} {A : Option Addr} {n c : Nat} {xs : List Value} {X : List Asn} (h : St W w (aRow e 1 (.slice A n c) n xs :: X)) (hn : 0 < n) : ∃ g, A = some ⟨g, 0, none⟩ := by
  obtain ⟨own, hr, _⟩ := h.get
  rcases hr.1.2 with ⟨h1, h2⟩ | ⟨g, cap, cur, h1, _⟩
  · injection h1 with h1 h3 h4; omega
  · injection h1 with h1 h3 h4; exact ⟨g, h1⟩
theorem St.rowAt {W w : World} {e : TypeId} {g n c : Nat} {xs : List Value} {X : List Asn} (h : St W w (aRow e 1 (.slice (some ⟨g, 0, none⟩) n c) n xs :: X)) {j : Nat} {x : Value} (hj : xs[j]? = some x) : w.cell? ⟨g, j, none⟩ = some x := by
  obtain ⟨own, hr, _⟩ := h.get
  obtain ⟨hl, A, cap, hv, _, _, hx⟩ := Rd.of_own hr.1
  injection hv with h1 _ _
  have := (hx _ h1.symm).2 j x hj
  rw [addr_at, Nat.zero_add] at this
  exact this

/-- the table knows the list L, whose digest is d -/
structure SInv (M L : List (List UInt8)) (d : Int) (N : Nat) : Prop where
  known : Known M L
  tip : d = lkN M (tipB M L)
  len : M.length ≤ N
  from_ : fromC M = 0
theorem SInv.start (L L' : List (List UInt8)) (h : L.length ≤ 40) (h' : L'.length ≤ 40) : SInv (rootF (rootF [] L').2 L).2 L (rootF (rootF [] L').2 L).1 200 := by
  obtain ⟨N1, e1, l1, k1, r1⟩ := root_known _ L' rfl [] (by simp; omega)
  obtain ⟨N2, e2, l2, k2, r2⟩ := root_known _ L rfl (rootF [] L').2 (by rw [e1]; simp only [List.nil_append]; omega)
  refine ⟨k2, r2, ?_, rootF_from _ L rfl _ (rootF_from _ L' rfl [] (by decide))⟩
  rw [e2, e1]; simp only [List.nil_append, List.length_append]; omega
theorem SInv.step {M L : List (List UInt8)} {d : Int} {N : Nat} (h : SInv M L d N) (hN : N < 1048576) (x : List UInt8) : SInv (sumM M x) L d (N + 1) := by
  obtain ⟨N1, e, l, m, r⟩ := sum_grow (M := M) x (by have := h.len; omega)
  have hk := h.known.app N1
  refine ⟨by rw [e]; exact hk.1, ?_, ?_, fromC_sum h.from_ x⟩
  · rw [e, hk.2, lkN_app N1 h.known.mem]; exact h.tip
  · rw [e, List.length_append]; have := h.len; omega
theorem SInv.no {M L : List (List UInt8)} {d : Int} {N : Nat} (h : SInv M L d N) {i : Nat} (hi : i < L.length) {b : List UInt8} {xs : List Int} (hv : verF M d b i L.length xs = true) : b = L[i] := by
  unfold verF at hv
  split at hv
  · cases hv
  · rw [Bool.and_eq_true, beq_iff_eq, h.tip] at hv
    simp only [Int.toNat_natCast] at hv
    have := comes_sound h.known i hi b xs (Prod.ext hv.2 hv.1)
    rw [List.getElem?_eq_getElem hi] at this
    injection this with this
    exact this.symm
theorem SInv.yes {M L : List (List UInt8)} {d : Int} {N : Nat} (h : SInv M L d N) (hN : N ≤ 1048576) {i : Nat} (hi : i < L.length) : ∃ ps, proveF M i L = (ps, M) ∧ (∀ x ∈ ps, x ≤ 9223372036854775807) ∧ ∀ b, verF M d b i L.length ps = decide (b = L[i]) := by
  obtain ⟨ps, h1, h2, h3⟩ := prove_known h.known i _ (List.getElem?_eq_getElem hi)
  have hb := (proveF_bd _ L rfl i M (by have := h.len; omega)).2.2
  rw [h1] at hb
  refine ⟨ps, h1, fun x hx => by have := hb x hx; omega, fun b => ?_⟩
  by_cases e : b = L[i]
  · rw [decide_eq_true e, e, h.tip]; exact ver_known h.known i hi h2 h3
  · rw [decide_eq_false e]
    cases hv : verF M d b i L.length ps with
    | false => rfl
    | true => exact absurd (h.no hi hv) e
end Go.Proofs.Ythgpkbhilkdckaa

/- Arguments of Merkle's laws, opened. -/
namespace Go.Proofs.Ythgpkbhilkdckaa
open Go.ChangeShapes Go.WideShapes Go.ChangeAt Go.RowKit Go.Deep Go.Joins
set_option linter.unusedVariables false
section
variable {H : Type} {enc : TypeId × Value → H} {P : Program} {w : World} {base : Nat} {spare : Nat → Bool} {held : Bool}
theorem open_agg6 {r : Reach} {b0 : Nat} {t : TypeId} {f0 f1 f2 f3 f4 f5 : Field} {v : Value} {d : DataW H} {p : List MemPlace} (hs : P.underlying t = some (.struct #[f0, f1, f2, f3, f4, f5])) (hone : oneCellFields P #[f0, f1, f2, f3, f4, f5] = true) (hC : P.cellsOf t = 6)
    (hv : Value.okWide P w r b0 t v) (h : DataW.Trod enc P w base spare held t v d p) :
    ∃ (v0 v1 v2 v3 v4 v5 : Value) (y0 y1 y2 y3 y4 y5 : DataW H × List MemPlace) (n : Nat), v = .agg #[v0, v1, v2, v3, v4, v5] ∧ d = .agg [y0.1, y1.1, y2.1, y3.1, y4.1, y5.1] ∧ p = y0.2 ++ (y1.2 ++ (y2.2 ++ (y3.2 ++ (y4.2 ++ y5.2)))) ∧
      DataW.trod enc P w base spare held n f0.type [v0] = some y0 ∧ DataW.trod enc P w base spare held n f1.type [v1] = some y1 ∧ DataW.trod enc P w base spare held n f2.type [v2] = some y2 ∧ DataW.trod enc P w base spare held n f3.type [v3] = some y3 ∧ DataW.trod enc P w base spare held n f4.type [v4] = some y4 ∧ DataW.trod enc P w base spare held n f5.type [v5] = some y5 := by
  obtain ⟨cs, rfl, hsz⟩ := okWide_struct hs hv
  obtain ⟨l⟩ := cs
  match l, hsz.trans hC with
  | [c0, c1, c2, c3, c4, c5], _ =>
    obtain ⟨fuel, hf⟩ := h
    obtain ⟨xs, n, _, hx, _, hlen, hg⟩ := DataW.trod_struct hs hf
    obtain ⟨o0, k0⟩ := hone_of hone 0 f0 rfl
    obtain ⟨o1, k1⟩ := hone_of hone 1 f1 rfl
    obtain ⟨o2, k2⟩ := hone_of hone 2 f2 rfl
    obtain ⟨o3, k3⟩ := hone_of hone 3 f3 rfl
    obtain ⟨o4, k4⟩ := hone_of hone 4 f4 rfl
    obtain ⟨o5, k5⟩ := hone_of hone 5 f5 rfl
    match xs, hlen with
    | [y0, y1, y2, y3, y4, y5], _ =>
      simp only [Prod.mk.injEq] at hx
      exact ⟨c0, c1, c2, c3, c4, c5, y0, y1, y2, y3, y4, y5, n, rfl, by simpa using hx.1, by simpa using hx.2, by simpa [Value.cells, o0, k0] using hg 0 f0 rfl, by simpa [Value.cells, o1, k1] using hg 1 f1 rfl, by simpa [Value.cells, o2, k2] using hg 2 f2 rfl, by simpa [Value.cells, o3, k3] using hg 3 f3 rfl, by simpa [Value.cells, o4, k4] using hg 4 f4 rfl, by simpa [Value.cells, o5, k5] using hg 5 f5 rfl⟩
/-- a list of digests, opened -/
theorem open_is {t e : TypeId} {c : Value} {fuel : Nat} {x : DataW H × List MemPlace} (ht : P.underlying t = some (.slice e)) (he : P.underlying e = some (.int .i64)) (hC : P.cellsOf e = 1)
    (h : DataW.trod enc P w base spare held fuel t [c] = some x) : ∃ xs, Is w c xs := by
  rcases open_slice1 ht hC h with ⟨h2, h3⟩ | ⟨a, len, cap, m, n, V, D, Pl, hcs, hb, hl, hm, hmm, hx, hi⟩
  · simp at h2
    subst h2
    exact ⟨[], none, 0, rfl, Nat.le_refl _, by unfold maxLen; omega, fun h => by simp at h⟩
  · simp at hcs
    subst hcs
    have hlm : len ≤ m := by rw [hmm]; split <;> omega
    obtain ⟨xs, hl1, hl2⟩ := list_choose (P := fun i (k : Int) => k ≤ 9223372036854775807 ∧ w.cell? (a.add i) = some (.int .i64 k)) len (fun i hil => by
      obtain ⟨hc, htr⟩ := hi i (by omega)
      obtain ⟨k, e0, e1, e2⟩ := DataW.trod_int he htr
      simp at e0
      have : k ≤ 9223372036854775807 := by simpa [Lit.wf, IntKind.min, IntKind.max, IntKind.signed, IntKind.bits] using (show -9223372036854775808 ≤ k ∧ k ≤ 9223372036854775807 by simpa [Lit.wf, IntKind.min, IntKind.max, IntKind.signed, IntKind.bits] using e2).2
      exact ⟨k, this, by rw [← e0]; exact hc⟩)
    refine ⟨xs, some a, cap, by rw [hl1], by omega, hm, fun hn => ?_⟩
    obtain ⟨_, z⟩ := hl2 0 _ (List.getElem?_eq_getElem hn)
    have za : a = ⟨a.block, a.off, none⟩ := by
      have := cell_spot z
      simp [Addr.add] at this
      cases a; simp_all
    refine ⟨a.block, a.off, by rw [← za], ?_, fun i k hik => ?_⟩
    · have := World.block_lt_of_cell? w _ z; rwa [block_of_add] at this
    · obtain ⟨k1, k2⟩ := hl2 i k hik
      refine ⟨k1, ?_⟩
      rw [za, addr_at] at k2
      exact k2
theorem i64_arg {n0 : Int} (h : (Lit.int .i64 n0).wf = true) : -9223372036854775808 ≤ n0 ∧ n0 ≤ 9223372036854775807 := by
  simpa [Lit.wf, IntKind.min, IntKind.max, IntKind.signed, IntKind.bits] using h
theorem u8_arg {n0 : Int} (h : (Lit.int .u8 n0).wf = true) : ∃ n : Nat, n0 = (n : Int) ∧ n < 256 := by
  have : 0 ≤ n0 ∧ n0 ≤ 255 := by simpa [Lit.wf, IntKind.min, IntKind.max, IntKind.signed, IntKind.bits] using h
  exact ⟨n0.toNat, by omega, by omega⟩
end

end Go.Proofs.Ythgpkbhilkdckaa
