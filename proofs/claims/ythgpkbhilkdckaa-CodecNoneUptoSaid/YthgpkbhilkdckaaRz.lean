/- IdealSums: the walk. -/
import Derived.Test.YthgpkbhilkdckaaRx
import Derived.Test.YthgpkbhilkdckaaLp
namespace Go.Proofs.Ythgpkbhilkdckaa
open Go.RowKit
set_option linter.unusedVariables false

section
variable {P : Program} {W w : World} {ops : Array Oper} {rest : List Oper} {o : Oper} {a : Act} {Q : Exit → Act → World → Prop} {L : List Asn}
/-- append onto a row that is an object of its own -/
theorem wpList_append_St (hgd : o.guard = none) (s x : Operand) (t : TypeId) (ho : o.op = .call { callee := .builtin .append, args := #[s, x], argTypes := #[t, t] })
    {e : TypeId} {z : Value} {sz bytes : Nat} (ht : P.underlying t = some (.slice e)) (hie : (P.info? e).map (fun i => (i.zero, i.size, i.bytes)) = some (some z, sz, bytes)) (hz : z.cells.size = sz) (hsz : 0 < sz)
    {n m : Nat} {v u : Value} {xs news : List Value} (hs : a.eval s = v) (hx : a.eval x = u) (hown : St W w (aRow e sz v n xs :: L)) (hu : Rd w u m sz news) (h1 : ∀ x ∈ news, x.oneCell' = true) (h63 : n + m ≤ maxLen) (hroom : (n + m) * bytes ≤ 140737488355328)
    (h : ∀ A c w', St W w' (aRow e sz (.slice A (n + m) c) (n + m) (xs ++ news) :: L) → wpList P ops Q rest (a.put o.dst (.slice A (n + m) c)) w') :
    wpList P ops Q (o :: rest) a w := by
  obtain ⟨own, hr, ho', hback⟩ := hown.focus
  refine wpList_append_Rd hgd s x t ho ht hie hz hsz hs hx hr.1 hu h1 h63 hroom (Nat.zero_le _) fun A c w' r1 x1 y1 => ?_
  refine h A c w' (hback w' (aRow e sz (.slice A (n + m) c) (n + m) (xs ++ news)) ((Ext.refl own w).grown x1 (fun g e' _ => hr.2 g e')) ⟨r1, fun g hg => ?_⟩)
  rcases y1 with e' | e'
  · exact .inl (hr.2 g (by rw [← e', hg]))
  · right; rw [e'] at hg; injection hg with hg; omega
theorem Rd.lit (w : World) (cs : Array Value) (t : TypeId) (n : Nat) (hn : cs.size = n) : Rd (w.alloc (.cells cs t)) (.slice (some ⟨w.heap.size, 0, none⟩) n n) n 1 cs.toList := by
  refine ⟨by simp [hn], _, n, rfl, fun e => (by cases e), Nat.le_refl _, fun ad had => ?_⟩
  cases had
  refine ⟨fun _ => by simp, fun j x hx => ?_⟩
  have ea : (⟨w.heap.size, 0, none⟩ : Addr).add j = ⟨w.heap.size, j, none⟩ := by unfold Addr.add; split <;> simp_all
  rw [ea, (Blk.new w t cs).cell]
  simpa using hx
theorem aRow.bs {v : Value} {bs : List UInt8} (hl : bs.length ≤ big) (h : St W w (aRow 5 1 v bs.length (cellsB bs) :: L)) : St W w (aBs v bs :: L) :=
  h.conv fun own h => ⟨Bs.of_own h.1 hl, fun g hg _ => h.2 g hg⟩
theorem aRow.bs_app {v : Value} {x y : List UInt8} {n m : Nat} (hn : n = x.length) (hm : m = y.length) (hl : (x ++ y).length ≤ big) (h : St W w (aRow 5 1 v (n + m) (cellsB x ++ cellsB y) :: L)) : St W w (aBs v (x ++ y) :: L) := by
  subst hn hm
  rw [← cellsB_app, ← List.length_append] at h
  exact aRow.bs hl h
theorem St.addRow (h : St W w L) {w' : World} (hb : B w w') {v : Value} {e : TypeId} {sz n : Nat} {xs : List Value} (hr : w'.ownsRow w.heap.size e sz v n xs) : St W w' (aRow e sz v n xs :: L) :=
  h.add hb (A := aRow e sz v n xs) (own := fun x => w.heap.size ≤ x) ⟨row_base hr (Nat.zero_le _), fun g hg => row_ge hr hg⟩ (fun x e => e)
end
section
variable {W w : World} {p : Nat} {M : List (List UInt8)} {X : List Asn} {v u : Value} {b : List UInt8} {inn inn' : Nat → Prop}
theorem St.open64 (h : St W w (aTab p M :: X)) (hlen : M.length ≤ 9223372036854775806) (d : Int) (hd : -9223372036854775808 ≤ d ∧ d ≤ 9223372036854775807) :
    Calls Try.prog 64 #[.pointer (some ⟨p, 0, none⟩), .int .i64 d] w fun e w' => ∃ v', e = .returned (.tuple #[v', .bool (opB M d)]) ∧ Bs w' v' (opV M d) ∧ St W w' (aTab p M :: X) := by
  obtain ⟨own, ht, ho⟩ := h.get
  exact (Go.Proofs.Ythgpkbhilkdckaa.open64 ht hlen d hd).mono fun e w' ⟨v', he, hr, hl, hb⟩ => ⟨v', he, Bs.of_own hr hl, h.later hb⟩
theorem St.open65 (h : St W w (aRef p M :: X)) (hlen : M.length ≤ 9223372036854775806) (d : Int) (hd : -9223372036854775808 ≤ d ∧ d ≤ 9223372036854775807) :
    Calls Try.prog 65 #[.pointer (some ⟨p, 0, none⟩), .int .i64 d] w fun e w' => ∃ v', e = .returned (.tuple #[v', .bool (opB M d)]) ∧ Bs w' v' (opV M d) ∧ B w w' ∧ St W w' (aRef p M :: X) := by
  obtain ⟨own, ht, ho⟩ := h.get
  exact (Go.Proofs.Ythgpkbhilkdckaa.open65 ht hlen d hd).mono fun e w' ⟨v', he, hr, hl, hb⟩ => ⟨v', he, Bs.of_own hr hl, hb, h.later hb⟩
theorem St.look66 (h : St W w (aTab p M :: X)) (hb : Bs w v b) :
    Calls Try.prog 66 #[.pointer (some ⟨p, 0, none⟩), v] w fun e w' => e = .returned (.tuple #[.int .i64 (lkN M b), .bool (lkB M b)]) ∧ B w w' ∧ St W w' (aTab p M :: X) := by
  obtain ⟨own, ht, ho⟩ := h.get
  exact (Go.Proofs.Ythgpkbhilkdckaa.look66 ht hb).mono fun e w' ⟨he, hb⟩ => ⟨he, hb, h.later hb⟩
theorem St.rlook67 (h : St W w (aRef p M :: X)) (hlen : M.length ≤ 9223372036854775806) (hb : Bs w v b) :
    Calls Try.prog 67 #[.pointer (some ⟨p, 0, none⟩), v] w fun e w' => e = .returned (.tuple #[.int .i64 (lkN M b), .bool (lkB M b)]) ∧ w = w' := by
  obtain ⟨own, ht, ho⟩ := h.get
  exact Go.Proofs.Ythgpkbhilkdckaa.rlook67 ht hlen hb
end
theorem fromC_mk {M : List (List UInt8)} (h1 : M.length ≤ 1048576) (h2 : M.Nodup) : fromC M = 0 := by
  unfold fromC; rw [if_neg (by omega), if_pos h2]
theorem fromC_sum {M : List (List UInt8)} (h : fromC M = 0) (x : List UInt8) : fromC (sumM M x) = 0 := by
  obtain ⟨h1, h2⟩ := fromC_le h
  unfold sumM
  split
  · exact h
  · split
    · exact h
    · refine fromC_mk (by simp; omega) ?_
      rw [List.nodup_append]
      exact ⟨h2, by simp, fun a ha b hb => by simp at hb; subst hb; exact fun e => by subst e; contradiction⟩

set_option maxRecDepth 20000 in
set_option maxHeartbeats 4000000 in
theorem idealSums_walk {W : World} {v u : Value} {L : List (List UInt8)} {d : Int} {b : List UInt8} (hv : Lss (fun g => g < W.heap.size) W v L) (hlen : ∀ x ∈ L, x.length ≤ 140737488351232) (hd : -9223372036854775808 ≤ d ∧ d ≤ 9223372036854775807) (hu : Bs W u b) :
    Calls Try.prog 9 #[v, .int .i64 d, u] W fun e w' => e = .returned (.bool true) ∧ B W w' := by
  have HU := Lib.hid hu
  have HLN := Lib.hid hlen
  have HD := Lib.hid hd
  obtain ⟨A, c, rfl, _, hc1, hm1, hr⟩ := hv
  have HR := Lib.hid hr
  have hs : (L.length : Int) ≤ 9223372036854775807 := by unfold maxLen at hm1; omega
  clear hr hc1 hm1 hu hlen hd
  go_enter Try.func9, Try.ntmps9
  go_wp2_with (first
    | (go_at_call 61; refine (St.newTable61 (St.nil W)).mono ?_; rintro e w1 ⟨p, rfl, hS⟩; have HS1 := Lib.hid hS; clear hS)
    | (go_at_call 24; refine (St.begun24 (HS1.out.add (B.alloc' _ _) (A := aRef w1.heap.size []) (own := fun b => b = w1.heap.size) (RefT.new w1) (fun x e => by omega))).mono ?_; rintro e w2 ⟨rfl, hS⟩; have HS2 := Lib.hid hS.swap; clear hS))
  generalize w1.heap.size = p2 at *
  clear HS1
  go_loopw [7, 31] (fun t i wr => ∃ (q p' : Nat) (M : List (List UInt8)), q ≤ L.length ∧ i = .int .i64 q ∧ t = .pointer (some ⟨p', 0, none⟩) ∧ fromC M = 0 ∧ St W wr [aTab p' M, aRef p2 M]) (fun _ i _ => L.length - (intOf i).toNat)
  case atStart => exact ⟨0, p, [], Nat.zero_le _, rfl, rfl, by decide, HS2.out⟩
  case round =>
    obtain ⟨q, p', M, hq, rfl, rfl, hM, hS⟩ := hrel
    have HM := Lib.hid hM
    have HS := Lib.hid hS
    have HML := Lib.hid (show M.length ≤ 9223372036854775806 by have := (fromC_le hM).1; omega)
    clear HS2 hM
    by_cases hlt : q < L.length
    · obtain ⟨b', off, rfl, hb, _, hc⟩ := HR.out (by omega)
      obtain ⟨u1, k1, k2, k3⟩ := hc q _ (List.getElem?_eq_getElem hlt)
      have k1 := hS.b.cell k1
      have HK := Lib.hid k2
      have HX := Lib.hid (HLN.out _ (List.getElem_mem hlt))
      have HO := Lib.hid (show ∀ g, u1.ownBlock = some g → L[q] ≠ [] → g < W.heap.size from fun g hg hne => k3 g hg hne)
      have hqi : (q : Int) < L.length := by omega
      generalize L[q] = x at *
      clear hc k2 k3 hS
      by_cases h5 : (q : Int) % 5 = 4
      · have g5 : ((q : Int) % 5 == 4) = true := by simpa using h5
        have g1 : x.length + 3 ≤ maxLen := by have := HX.out; unfold maxLen; omega
        have g2 : (x.length + 3) * 1 ≤ 140737488355328 := by have := HX.out; omega
        have o1 : ∀ y ∈ cellsB [1, 2, 3], y.oneCell' = true := cellsB_one _
        have g3 : (x ++ [1, 2, 3]).length ≤ big := by have := HX.out; unfold big; simp; omega
        have G3 := Lib.hid g3
        clear h5 g3
        go_wp2_with (first
          | (go_at_call 62; refine (St.tclone62 HS.out HM.out).mono ?_; rintro e w3 ⟨p3, rfl, hS⟩; have HS3 := Lib.hid hS; clear hS)
          | (go_at_call 63; refine (clone63 (HK.out.later HS3.out.b)).mono ?_; rintro e w4 ⟨v4, rfl, r4, hb4⟩; obtain ⟨A4, c4, rfl⟩ := own_slice r4; have HS4 := Lib.hid ((HS3.out.addRow hb4 r4).later (B.alloc' _ (.cells #[.int .u8 1, .int .u8 2, .int .u8 3] 5))); clear hb4 r4)
          | (refine wpList_append_St rfl (.tmp 45) (.tmp 46) 47 rfl Try.underlying47 info5 rfl Nat.zero_lt_one rfl rfl HS4.out (show Rd _ _ 3 1 (cellsB [1, 2, 3]) from Rd.lit w4 #[.int .u8 1, .int .u8 2, .int .u8 3] 5 3 rfl) o1 g1 g2 ?_; intro A5 c5 w5 hS; have HS5 := Lib.hid (St.rot3 (aRow.bs_app rfl rfl G3.out hS)); clear hS)
          | (go_at_call 52; refine (St.sum52' (b := x ++ [1, 2, 3]) HS5.out).mono ?_; rintro e w6 ⟨rfl, hS⟩; have HS6 := Lib.hid (hS.drop.drop.later (Below.refl _ _).drew); clear hS))
        go_region_with (first
          | (go_at_call 52; refine (St.sum52 HS6.out (HK.out.later HS6.out.b) HO.out).mono ?_; rintro e w7 ⟨rfl, hS⟩; have HS7 := Lib.hid hS.swap; clear hS)
          | (go_at_call 53; refine (St.rsum53 HS7.out HML.out (HK.out.later HS7.out.b)).mono ?_; rintro e w8 ⟨rfl, hS⟩; have HS8 := Lib.hid hS; obtain ⟨A7, c7, hc7⟩ := hS.rcell; clear hS)
          | (go_at_call 54; refine (St.len54 HS8.out.swap).mono ?_; rintro e w9 ⟨rfl, rfl⟩))
        all_goals
          go_wp2_with fail
          go_roundw
          case rel => exact ⟨q + 1, p3, sumM M x, by omega, by go_num, rfl, fromC_sum HM.out x, HS8.out.swap⟩
          case measure => simp [intOf]; omega
      · have g5 : ((q : Int) % 5 == 4) = false := by simpa using h5
        have HS6 := Lib.hid (HS.out.later (Below.refl _ _).drew)
        clear h5
        go_wp2_with fail
        go_region_with (first
          | (go_at_call 52; refine (St.sum52 HS6.out (HK.out.later HS6.out.b) HO.out).mono ?_; rintro e w7 ⟨rfl, hS⟩; have HS7 := Lib.hid hS.swap; clear hS)
          | (go_at_call 53; refine (St.rsum53 HS7.out HML.out (HK.out.later HS7.out.b)).mono ?_; rintro e w8 ⟨rfl, hS⟩; have HS8 := Lib.hid hS; obtain ⟨A7, c7, hc7⟩ := hS.rcell; clear hS)
          | (go_at_call 54; refine (St.len54 HS8.out.swap).mono ?_; rintro e w9 ⟨rfl, rfl⟩))
        all_goals
          go_wp2_with fail
          go_roundw
          case rel => exact ⟨q + 1, p', sumM M x, by omega, by go_num, rfl, fromC_sum HM.out x, HS8.out.swap⟩
          case measure => simp [intOf]; omega
    · have hqi : ¬ (q : Int) < L.length := by omega
      go_wp2_with (first
        | (go_at_call 64; refine (St.open64 HS.out HML.out d HD.out).mono ?_; rintro e w3 ⟨v3, rfl, hb3, hS⟩; have HS3 := Lib.hid hS.swap; have HB3 := Lib.hid hb3; clear hS hb3)
        | (go_at_call 65; refine (St.open65 HS3.out HML.out d HD.out).mono ?_; rintro e w4 ⟨v4, rfl, hb4, hbb, hS⟩; have HS4 := Lib.hid hS.swap; have HB4 := Lib.hid hb4; have HBB := Lib.hid hbb; clear hS hb4 hbb)
        | (go_at_call 66; refine (St.look66 HS4.out (HU.out.later HS4.out.b)).mono ?_; rintro e w5 ⟨rfl, hb5, hS⟩; have HS5 := Lib.hid hS.swap; have HB5 := Lib.hid hb5; clear hS hb5)
        | (go_at_call 67; refine (St.rlook67 HS5.out HML.out (HU.out.later HS5.out.b)).mono ?_; rintro e w6 ⟨rfl, rfl⟩))
      obtain ⟨own, hT, ho⟩ := HS5.out.swap.get
      obtain ⟨own2, hT2, ho2⟩ := HS5.out.get
      obtain ⟨vr, hcr, hLr⟩ := RefT.lss hT2
      obtain ⟨Ar, cr, rfl, _⟩ := id hLr
      have HC := Lib.hid hcr
      have l1 : ∀ w', B w5 w' → w'.cell? ⟨p2, 0, none⟩ = some (.slice Ar M.length cr) := fun w' hb => hb.cell HC.out
      have c68 := Lib.hid (fun w' (hb : B w5 w') => equal68 ((HB3.out.later HBB.out).later (HB5.out.trans hb)) (HB4.out.later (HB5.out.trans hb)))
      have c51 := Lib.hid (fun w' (hb : B w5 w') => Go.Proofs.Ythgpkbhilkdckaa.plain51 (TableAt.later (show TableAt own w5 p' M from hT) hb) (fromC_le HM.out).1)
      have c50 := Lib.hid (fun w' (hb : B w5 w') {inn : Nat → Prop} {vP : Value} (hP : Lss inn w' vP M) => sameAll50 hP (hLr.later hb))
      have es : decide (M = M) = true := decide_eq_true rfl
      have eo : (opV M d == opV M d) = true := by simp
      have HB5 := Lib.hid HS5.out.b
      generalize lkN M b = n1 at *
      generalize lkB M b = n2 at *
      clear hcr hLr
      go_region_held3 (fun w' => B w5 w') (first | exact B.trans (by assumption) hb | exact (Below.refl _ _).drew | assumption) (first
        | (go_at_call 68; refine (c68.out _ (by assumption)).mono ?_; rintro e wn ⟨rfl, rfl⟩; simp only [eo])
        | (go_at_call 51; refine (c51.out _ (by assumption)).mono ?_; rintro e wn ⟨vP, rfl, hP, hb⟩)
        | (go_at_call 50; refine (c50.out _ (by assumption) hP).mono ?_; rintro e wn ⟨rfl, hb⟩; simp only [es]))
      have hlast := ‹B w5 _›
      go_wp2_with fail
      go_ret
      exact ⟨by simp, HS5.out.b.trans hlast⟩
end Go.Proofs.Ythgpkbhilkdckaa
