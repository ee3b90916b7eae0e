/- IdealNone: the walk. -/
import Derived.Test.YthgpkbhilkdckaaIa
namespace Go.Proofs.Ythgpkbhilkdckaa
open Go.RowKit
set_option linter.unusedVariables false

section
variable {W w : World} {L : List Asn}
theorem St.store {e : TypeId} {sz n g c : Nat} {xs : List Value} (h : St W w (aRow e sz (.slice (some ⟨g, 0, none⟩) n c) n xs :: L)) (j : Nat) (u : Value) : St W (w.setCell ⟨g, j, none⟩ u) L := by
  obtain ⟨own, hr, ho, hback⟩ := h.focus
  exact (hback _ (aRow e sz (.slice none 0 0) 0 []) ((Ext.refl own w).set (p := ⟨g, j, none⟩) (fun _ => hr.2 g rfl) u) ⟨ownNil _ _ _ _, fun g hg => by simp [Value.ownBlock] at hg⟩).drop
theorem St.row_form {e : TypeId} {sz n : Nat} {v : Value} {xs : List Value} (h : St W w (aRow e sz v n xs :: L)) (hn : 0 < n) (hs : 0 < sz) : ∃ g c, v = .slice (some ⟨g, 0, none⟩) n c ∧ (∀ j, j < n * sz → w.cell? ⟨g, j, none⟩ = xs[j]?) ∧ ∀ j, w.frozen? ⟨g, j, none⟩ = false := by
  obtain ⟨own, hr, ho⟩ := h.get
  obtain ⟨g, c, rfl, _, _⟩ := hr.1.form hn
  exact ⟨g, c, rfl, fun j hj => hr.1.cellAt j hj, fun j => hr.1.frozenAt j⟩
end
/-- the rows of Plain as an object -/
def aPl (v : Value) (M : List (List UInt8)) : Asn where
  at_ own w := ∃ vs, (w.ownsRow 0 47 1 v M.length vs ∧ ∀ g, v.ownBlock = some g → own g) ∧ Els own w vs M
  ext := fun ⟨vs, h1, h2⟩ hx hd => ⟨vs, ⟨row_ext h1.1 hx (fun g hg => hd g (h1.2 g hg)), h1.2⟩, h2.ext hx (fun g _ hg _ => hd g hg)⟩
  bound := fun ⟨vs, h1, h2⟩ => ⟨vs, ⟨h1.1, fun g hg => ⟨h1.2 g hg, row_lt h1.1 hg⟩⟩, h2.1, fun i v b hv hm => let ⟨r1, r2, r3⟩ := h2.2 i v b hv hm; ⟨r1, r2, fun g hg => ⟨r3 g hg, row_lt r1 hg⟩⟩⟩
theorem St.plain51o {W w : World} {p : Nat} {M : List (List UInt8)} {X : List Asn} (h : St W w (aTab p M :: X)) (hlen : M.length ≤ 1048576) :
    Calls Try.prog 51 #[.pointer (some ⟨p, 0, none⟩)] w fun e w' => ∃ v, e = .returned v ∧ St W w' (aPl v M :: aTab p M :: X) := by
  obtain ⟨own, ht, ho⟩ := h.get
  exact (Go.Proofs.Ythgpkbhilkdckaa.plain51o ht hlen).mono fun e w' ⟨v, vs, he, hr, hE, hb⟩ => ⟨v, he, h.add hb (A := aPl v M) (own := fun x => w.heap.size ≤ x) ⟨vs, ⟨row_base hr (Nat.zero_le _), fun g hg => row_ge hr hg⟩, hE⟩ (fun x e => e)⟩
theorem St.open64o {W w : World} {p : Nat} {M : List (List UInt8)} {X : List Asn} (h : St W w (aTab p M :: X)) (hlen : M.length ≤ 9223372036854775806) (d : Int) (hd : -9223372036854775808 ≤ d ∧ d ≤ 9223372036854775807) :
    Calls Try.prog 64 #[.pointer (some ⟨p, 0, none⟩), .int .i64 d] w fun e w' => ∃ v', e = .returned (.tuple #[v', .bool (opB M d)]) ∧ (opV M d).length ≤ big ∧ St W w' (aRow 5 1 v' (opV M d).length (cellsB (opV M d)) :: aTab p M :: X) := by
  obtain ⟨own, ht, ho⟩ := h.get
  exact (Go.Proofs.Ythgpkbhilkdckaa.open64 ht hlen d hd).mono fun e w' ⟨v', he, hr, hl, hb⟩ => ⟨v', he, hl, h.addRow hb hr⟩
theorem St.clone63 {W w : World} {v : Value} {b : List UInt8} {X : List Asn} (h : St W w X) (hb : Bs w v b) : Calls Try.prog 63 #[v] w fun e w' => ∃ v', e = .returned v' ∧ St W w' (aRow 5 1 v' b.length (cellsB b) :: X) :=
  (Go.Proofs.Ythgpkbhilkdckaa.clone63 hb).mono fun e w' ⟨v', he, hr, hb⟩ => ⟨v', he, h.addRow hb hr⟩

theorem St.sum52r {W w : World} {p : Nat} {M : List (List UInt8)} {X : List Asn} {v : Value} {x : List UInt8} {n : Nat} (h : St W w (aTab p M :: aRow 5 1 v n (cellsB x) :: X)) (hn : n = x.length) (hl : x.length ≤ big) :
    Calls Try.prog 52 #[.pointer (some ⟨p, 0, none⟩), v] w fun e w' => e = .returned (.int .i64 (sumN M x)) ∧ St W w' (aTab p (sumM M x) :: aRow 5 1 v n (cellsB x) :: X) := by
  subst hn
  obtain ⟨own, o', ht, hv, ho, hd, hback⟩ := h.focus2
  exact (Go.Proofs.Ythgpkbhilkdckaa.sum52 ht (Bs.of_own hv.1 hl) (fun g hg hne => hd g (hv.2 g hg))).mono fun e w' ⟨he, hT, hx⟩ => ⟨he, hback w' (aTab p _) hx hT⟩
theorem St.open64x {W w : World} {p : Nat} {x : List UInt8} {X : List Asn} (h : St W w (aTab p [x] :: X)) :
    Calls Try.prog 64 #[.pointer (some ⟨p, 0, none⟩), .int .i64 1] w fun e w' => ∃ v', e = .returned (.tuple #[v', .bool true]) ∧ St W w' (aRow 5 1 v' x.length (cellsB x) :: aTab p [x] :: X) := by
  have h1 : opB [x] 1 = true := by simp [opB]
  have h2 : opV [x] 1 = x := by simp [opV, h1]
  exact (St.open64o h (by simp) 1 (by omega)).mono fun e w' ⟨v', he, hl, hS⟩ => ⟨v', by rw [he, h1], by rw [h2] at hS; exact hS⟩
theorem St.rowBs {W w : World} {X : List Asn} {v : Value} {x : List UInt8} {n : Nat} (h : St W w (aRow 5 1 v n (cellsB x) :: X)) (hn : n = x.length) (hl : x.length ≤ big) : Bs w v x := by
  subst hn
  obtain ⟨own, hr, _⟩ := h.get
  exact Bs.of_own hr.1 hl
theorem St.rowSlice {W w : World} {X : List Asn} {e : TypeId} {sz n : Nat} {v : Value} {xs : List Value} (h : St W w (aRow e sz v n xs :: X)) : ∃ A c, v = .slice A n c := by
  obtain ⟨own, hr, _⟩ := h.get
  exact own_slice hr.1
theorem St.plForm {W w : World} {X : List Asn} {v : Value} {x : List UInt8} {y : Int} (h : St W w (aPl v [x] :: X)) (hy : (cellsB x)[0]? = some (.int .u8 y)) : ∃ g c g1 c1, v = .slice (some ⟨g, 0, none⟩) 1 c ∧ w.cell? ⟨g, 0, none⟩ = some (.slice (some ⟨g1, 0, none⟩) x.length c1) ∧
    w.cell? ⟨g1, 0, none⟩ = some (.int .u8 y) ∧ w.frozen? ⟨g1, 0, none⟩ = false ∧ ∀ u, St W (w.setCell ⟨g1, 0, none⟩ u) X := by
  have hx0 : 0 < x.length := by
    rcases Nat.eq_zero_or_pos x.length with e | e
    · rw [List.getElem?_eq_none (by rw [cellsB_len]; omega)] at hy; cases hy
    · exact e
  obtain ⟨own, ⟨vs, ⟨h1, h2⟩, h3⟩, ho, hback⟩ := h.focus
  obtain ⟨g, c, rfl, _, _⟩ := h1.form (by simp)
  have hl : vs.length = 1 := h3.1
  obtain ⟨v1, rfl⟩ : ∃ v1, vs = [v1] := by
    match vs, hl with
    | [v1], _ => exact ⟨v1, rfl⟩
  obtain ⟨r1, r2, r3⟩ := h3.2 0 v1 x rfl rfl
  obtain ⟨g1, c1, rfl, _, _⟩ := r1.form hx0
  refine ⟨g, c, g1, c1, rfl, by rw [h1.cellAt 0 (by simp)]; rfl, by rw [r1.cellAt 0 (by omega), hy], r1.frozenAt 0, fun u => ?_⟩
  exact (hback _ (aRow 5 1 (.slice none 0 0) 0 []) ((Ext.refl own w).set (p := ⟨g1, 0, none⟩) (fun _ => r3 g1 rfl) u) ⟨ownNil _ _ _ _, fun g hg => by simp [Value.ownBlock] at hg⟩).drop

set_option maxRecDepth 100000 in
set_option maxHeartbeats 4000000 in
theorem idealNone_walk {W : World} {u : Value} {b : List UInt8} (hb : Bs W u b) (hlen : b.length ≤ 140737488351232) (k d : Int) :
    Calls Try.prog 15 #[u, .agg #[.int .i64 k, .int .i64 d]] W fun e w' => e = .returned (.bool true) ∧ B W w' := by
  have HU := Lib.hid hb
  have HL := Lib.hid hlen
  have HO : ∀ w', B (W.alloc (.cells #[.int .i64 k, .int .i64 d] 25)) w' → Own2 w' W.heap.size (.int .i64 k) (.int .i64 d) := fun w' hb => Own2.mk.later hb
  have HO := Lib.hid HO
  clear hb hlen
  go_enter Try.func15, Try.ntmps15
  go_wp2_with (first
    | (go_at_call 24; refine (begun24 _).mono ?_; rintro e w1 ⟨rfl, hb1⟩))
  have hE1 : Blk ((w1.alloc (.cells #[.slice none 0 0, .map none] 105)).alloc (.cells #[.pointer none, .pointer (some ⟨w1.heap.size, 0, none⟩)] 48)) w1.heap.size 105 #[.slice none 0 0, .map none] := (Blk.new w1 _ _).alloc _
  have hE2 : Blk ((w1.alloc (.cells #[.slice none 0 0, .map none] 105)).alloc (.cells #[.pointer none, .pointer (some ⟨w1.heap.size, 0, none⟩)] 48)) (w1.heap.size + 1) 48 #[.pointer none, .pointer (some ⟨w1.heap.size, 0, none⟩)] := by simpa using Blk.new (w1.alloc (.cells #[.slice none 0 0, .map none] 105)) 48 #[.pointer none, .pointer (some ⟨w1.heap.size, 0, none⟩)]
  have hB2 : B (W.alloc (.cells #[.int .i64 k, .int .i64 d] 25)) ((w1.alloc (.cells #[.slice none 0 0, .map none] 105)).alloc (.cells #[.pointer none, .pointer (some ⟨w1.heap.size, 0, none⟩)] 48)) := (hb1.trans (B.alloc' _ _)).trans (B.alloc' _ _)
  clear hb1
  generalize (w1.alloc (.cells #[.slice none 0 0, .map none] 105)).alloc (.cells #[.pointer none, .pointer (some ⟨w1.heap.size, 0, none⟩)] 48) = w2 at *
  have HE := Lib.hid (show ∀ q : Nat, q < 2 → ∃ v, w2.cell? ⟨w1.heap.size + 1, q, none⟩ = some v ∧ NoOne 105 w2 v from fun q hq => by
    rcases q with _ | _ | q
    · exact ⟨_, by rw [hE2.cell]; rfl, .inl rfl⟩
    · exact ⟨_, by rw [hE2.cell]; rfl, .inr ⟨_, rfl, hE1⟩⟩
    · omega)
  clear hE1 hE2
  generalize w1.heap.size = g1 at *
  go_loopw [30] (fun i wr => ∃ q : Nat, q ≤ 2 ∧ i = .int .i64 q ∧ B w2 wr) (fun i _ => 2 - (intOf i).toNat)
  case atStart => exact ⟨0, by omega, rfl, Below.refl _ _⟩
  case round =>
    obtain ⟨q, hq, rfl, hB⟩ := hrel
    by_cases hlt : q < 2
    · obtain ⟨v, hc, hN⟩ := HE.out q hlt
      have HN := Lib.hid hN
      have hc := hB.cell hc
      have hqi : (q : Int) < 2 := by omega
      clear hN
      go_wp2_with (first
        | (go_at_call 66; refine (look66n (HN.out.later hB) _).mono ?_; rintro e w3 ⟨rfl, hb3⟩; have hB3 := hB.trans hb3; clear hb3)
        | (go_at_call 64; refine (open64n (HN.out.later hB3) _).mono ?_; rintro e w4 ⟨rfl, hb4⟩; have hB4 := hB3.trans hb4; clear hb4)
        | (go_at_call 52; refine (sum52n (HN.out.later hB4) _).mono ?_; rintro e w5 ⟨rfl, hb5⟩; have hB5 := hB4.trans hb5; clear hb5)
        | (go_at_call 54; refine (len54n (HN.out.later hB5)).mono ?_; rintro e w6 ⟨rfl, hb6⟩; have hB6 := hB5.trans hb6; clear hb6)
        | (go_at_call 51; refine (plain51n (HN.out.later hB6)).mono ?_; rintro e w7 ⟨rfl, hb7⟩; have hB7 := hB6.trans hb7; clear hb7)
        | (go_at_call 62; refine (tclone62n (HN.out.later hB7)).mono ?_; rintro e w8 ⟨rfl, hb8⟩; have hB8 := hB7.trans hb8; clear hb8))
      go_roundw
      case rel => exact ⟨q + 1, by omega, by go_num, hB8⟩
      case measure => simp [intOf]; omega
    · have hqi : ¬ (q : Int) < 2 := by omega
      go_wp2_with fail
      have hE1 : Blk ((wr.alloc (.cells #[.slice none 0 0, .map none] 109)).alloc (.cells #[.pointer none, .pointer (some ⟨wr.heap.size, 0, none⟩)] 26)) wr.heap.size 109 #[.slice none 0 0, .map none] := (Blk.new wr _ _).alloc _
      have hE2 : Blk ((wr.alloc (.cells #[.slice none 0 0, .map none] 109)).alloc (.cells #[.pointer none, .pointer (some ⟨wr.heap.size, 0, none⟩)] 26)) (wr.heap.size + 1) 26 #[.pointer none, .pointer (some ⟨wr.heap.size, 0, none⟩)] := by simpa using Blk.new (wr.alloc (.cells #[.slice none 0 0, .map none] 109)) 26 #[.pointer none, .pointer (some ⟨wr.heap.size, 0, none⟩)]
      have hB3 : B (W.alloc (.cells #[.int .i64 k, .int .i64 d] 25)) ((wr.alloc (.cells #[.slice none 0 0, .map none] 109)).alloc (.cells #[.pointer none, .pointer (some ⟨wr.heap.size, 0, none⟩)] 26)) := ((hB2.trans hB).trans (B.alloc' _ _)).trans (B.alloc' _ _)
      clear hB hB2 hqi hlt HE
      generalize (wr.alloc (.cells #[.slice none 0 0, .map none] 109)).alloc (.cells #[.pointer none, .pointer (some ⟨wr.heap.size, 0, none⟩)] 26) = w3 at *
      have HE := Lib.hid (show ∀ q : Nat, q < 2 → ∃ v, w3.cell? ⟨wr.heap.size + 1, q, none⟩ = some v ∧ NoOne 109 w3 v from fun q hq => by
        rcases q with _ | _ | q
        · exact ⟨_, by rw [hE2.cell]; rfl, .inl rfl⟩
        · exact ⟨_, by rw [hE2.cell]; rfl, .inr ⟨_, rfl, hE1⟩⟩
        · omega)
      clear hE1 hE2
      generalize wr.heap.size = g2 at *
      go_loopw [74] (fun i ws => ∃ q : Nat, q ≤ 2 ∧ i = .int .i64 q ∧ B w3 ws) (fun i _ => 2 - (intOf i).toNat)
      case atStart => exact ⟨0, by omega, rfl, Below.refl _ _⟩
      case round =>
        obtain ⟨q, hq, rfl, hB⟩ := hrel
        by_cases hlt : q < 2
        · obtain ⟨v, hc, hN⟩ := HE.out q hlt
          have HN := Lib.hid hN
          have hc := hB.cell hc
          have hqi : (q : Int) < 2 := by omega
          clear hN
          go_wp2_with (first
            | (go_at_call 25; refine (sign25n (HN.out.later hB) _ _).mono ?_; rintro e w4 ⟨rfl, hb4⟩; have hB4 := (hB.trans hb4).trans (B.alloc' _ (.cells #[.int .i64 0, .int .i64 0] 25)); have hk := HO.out _ (hB3.trans hB4); have hk1 := hk.1; have hk2 := hk.2.1; clear hb4 hk)
            | (go_at_call 26; refine (signed26n (HN.out.later hB4) _ _).mono ?_; rintro e w5 ⟨rfl, hb5⟩; have hB5 := hB4.trans hb5; clear hb5)
            | (go_at_call 60; refine (llen60n (HN.out.later hB5)).mono ?_; rintro e w6 ⟨rfl, hb6⟩; have hB6 := hB5.trans hb6; clear hb6)
            | (go_at_call 59; refine (signs59n (HN.out.later hB6)).mono ?_; rintro e w7 ⟨rfl, hb7⟩; have hB7 := hB6.trans hb7; clear hb7)
            | (go_at_call 55; refine (lclone55n (HN.out.later hB7)).mono ?_; rintro e w8 ⟨rfl, hb8⟩; have hB8 := hB7.trans hb8; clear hb8))
          go_roundw
          case rel => exact ⟨q + 1, by omega, by go_num, hB8⟩
          case measure => simp [intOf]; omega
        · have hqi : ¬ (q : Int) < 2 := by omega
          have HS := Lib.hid (show St W wr [] from ⟨((B.alloc' _ _).trans hB3).trans hB, trivial⟩)
          clear hB hB3 HE HO
          have g1' : b.length + 1 ≤ maxLen := by have := HL.out; unfold maxLen; omega
          have g2' : (b.length + 1) * 1 ≤ 140737488355328 := by have := HL.out; omega
          have o1 : ∀ y ∈ cellsB [7], y.oneCell' = true := cellsB_one _
          obtain ⟨x, y, GB, HXL, HAP, HY, hnl, hxi, n1, N2, eqx⟩ : ∃ (x : List UInt8) (y : Int), Hid (x.length ≤ big) ∧ Hid (b.length + 1 = x.length) ∧ Hid (cellsB b ++ cellsB [7] = cellsB x) ∧ Hid ((cellsB x)[0]? = some (.int .u8 y)) ∧ (0 : Int) < (b.length : Int) + 1 ∧ (0 : Int) < x.length ∧ sumN [] x = 1 ∧ Hid (sumM [] x = [x]) ∧ (x == x) = true := by
            have hl := HL.out
            have hb7 : (b ++ [(7 : UInt8)]).length = b.length + 1 := by simp
            obtain ⟨z, r, hz⟩ : ∃ z r, b ++ [(7 : UInt8)] = z :: r := by
              cases b with
              | nil => exact ⟨_, _, rfl⟩
              | cons y r => exact ⟨_, _, rfl⟩
            exact ⟨b ++ [7], z.toNat, by show (b ++ [7]).length ≤ big; unfold big; omega, by show b.length + 1 = _; omega, by show _ = _; rw [← cellsB_app], by rw [hz]; rfl, by omega, by omega, by simp [sumN], by show _ = _; simp [sumM], by simp⟩
          go_wp2_with (first
            | (go_at_call 61; refine (St.newTable61 HS.out).mono ?_; rintro e w4 ⟨p, rfl, hS⟩; have HS1 := Lib.hid hS; clear hS)
            | (go_at_call_of 63 u; refine (St.clone63 HS1.out (HU.out.later HS1.out.b)).mono ?_; rintro e w5 ⟨v5, rfl, hS⟩; obtain ⟨A5, c5, rfl⟩ := hS.rowSlice; have HS2 := Lib.hid (hS.later (B.alloc' _ (.cells #[.int .u8 7] 5))); clear hS)
            | (at_builtin; refine wpList_append_St rfl (.tmp 107) (.tmp 108) 47 rfl Try.underlying47 info5 rfl Nat.zero_lt_one rfl rfl HS2.out (show Rd _ _ 1 1 (cellsB [7]) from Rd.lit w5 #[.int .u8 7] 5 1 rfl) o1 g1' g2' ?_; intro A6 c6 w6 hS; rw [HAP.out] at hS; obtain ⟨g6, c6', e6, hcl, hfz⟩ := hS.row_form (by omega) (by omega); injection e6 with eA _ eC; subst eA; subst eC; have HS3 := Lib.hid hS.swap; clear hS hcl hfz)
            | (go_at_call 52; refine (St.sum52r HS3.out HXL.out GB.out).mono ?_; rintro e w7 ⟨rfl, hS⟩; rw [N2.out] at hS; have HS4 := Lib.hid hS.swap; simp only [n1]; clear hS))
          go_wp2_with (first
            | (go_at_call 63; with_reducible refine (St.clone63 HS4.out (HS4.out.rowBs HXL.out GB.out)).mono ?_; rintro e w8 ⟨v8, rfl, hS⟩; obtain ⟨A8, c8, rfl⟩ := hS.rowSlice; have hS := hS.swap; obtain ⟨g6', c6', e6, hcl, hfz⟩ := hS.row_form (by omega) (by omega); injection e6 with eA _ eC; injection eA with eA; injection eA with eA; subst eA; subst eC; have hcl0 := hcl 0 (by omega); rw [HY.out] at hcl0; have hfz0 := hfz 0; have HS5 := Lib.hid hS; clear hS hcl hfz)
            | (go_at_call 64; with_reducible refine (St.open64x (St.swap (St.store HS5.out 0 _))).mono ?_; rintro e w9 ⟨v9, rfl, hS⟩; have HS6 := Lib.hid hS; obtain ⟨g9, c9, e9, hcl, hfz⟩ := hS.row_form (by omega) (by omega); subst e9; have hcl1 := hcl 0 (by omega); rw [HY.out] at hcl1; have hfz1 := hfz 0; clear hS hcl hfz)
            | (go_at_call 68; with_reducible refine (equal68 (HS6.out.rowBs rfl GB.out) (HS6.out.swap.drop.swap.rowBs rfl GB.out)).mono ?_; rintro e w10 ⟨rfl, rfl⟩; simp only [eqx])
            | (go_at_call 51; with_reducible refine (St.plain51o (St.store HS6.out 0 _) (by simp)).mono ?_; rintro e w11 ⟨v11, rfl, hS⟩; have HS7 := Lib.hid hS; obtain ⟨g11, c11, g12, c12, rfl, _⟩ := hS.plForm HY.out; clear hS))
          go_loopw [142] (fun i ws => ∃ q : Nat, q ≤ 1 ∧ i = .int .i64 q ∧ (q = 0 → St W ws [aPl (.slice (some ⟨g11, 0, none⟩) 1 c11) [x], aTab p [x], aRow 5 1 (.slice A8 x.length c8) x.length (cellsB x)]) ∧ (q = 1 → St W ws [aTab p [x], aRow 5 1 (.slice A8 x.length c8) x.length (cellsB x)])) (fun i _ => 1 - (intOf i).toNat)
          case atStart => exact ⟨0, by omega, rfl, fun _ => HS7.out, fun h => by omega⟩
          case round =>
            obtain ⟨q3, hq3, rfl, hS0, hS1⟩ := hrel
            by_cases h3 : q3 = 0
            · subst h3
              have HS8 := Lib.hid (hS0 rfl)
              obtain ⟨g11', c11', g12', c12', e11, k1, k2, k3, k4⟩ := HS8.out.plForm HY.out
              injection e11 with eA _ eC
              injection eA with eA
              injection eA with eA
              subst eA
              have K4 := Lib.hid k4
              clear hS0 hS1 k4 HS7
              go_wp2_with fail
              go_roundw
              case rel => exact ⟨1, by omega, by go_num, fun h => by omega, fun _ => K4.out _⟩
              case measure => simp [intOf]
            · obtain rfl : q3 = 1 := by omega
              have HS8 := Lib.hid (hS1 rfl)
              clear hS0 hS1 HS7 h3
              go_wp2_with (first
                | (go_at_call 64; with_reducible refine (St.open64x HS8.out).mono ?_; rintro e w9 ⟨v9, rfl, hS⟩; have HS9 := Lib.hid hS; clear hS)
                | (go_at_call 68; with_reducible refine (equal68 (HS9.out.rowBs rfl GB.out) (HS9.out.swap.drop.swap.rowBs rfl GB.out)).mono ?_; rintro e w10 ⟨rfl, rfl⟩; simp only [eqx]))
              go_ret
              exact ⟨rfl, HS9.out.b⟩
end Go.Proofs.Ythgpkbhilkdckaa
