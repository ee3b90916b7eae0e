/- Lemmas and contracts, part 11. -/
import Derived.Test.YtoikjgcggmemaaaGreatDoorZb10
import Derived.Lib.AppendZerosOnto
/- slices.Grow, slices.Concat; Truncate, Write of a disk. -/
namespace Go.Proofs.YtoikjgcggmemaaaGreatDoor
open Go.RowKit Go.Maps Go.Deep
set_option linter.unusedVariables false

theorem row_up {w : World} {e : TypeId} {sz n base : Nat} {v : Value} {xs : List Value} (h : w.ownsRow 0 e sz v n xs) (hg : ∀ g, v.ownBlock = some g → base ≤ g) : w.ownsRow base e sz v n xs := by
  refine ⟨h.1, ?_⟩
  rcases h.2 with h | ⟨g, cap, cur, rfl, _, r⟩
  · exact .inl h
  · exact .inr ⟨g, cap, cur, rfl, hg g rfl, r⟩
theorem St.rowUp {W w : World} {e : TypeId} {sz n : Nat} {v : Value} {xs : List Value} {X : List Asn} (h : St W w (aRow e sz v n xs :: X)) : w.ownsRow W.heap.size e sz v n xs := by
  obtain ⟨own, hr, ho⟩ := h.get
  exact row_up hr.1 (fun g hg => (ho g (hr.2 g hg)).1)
section
variable {W w : World} {p m : Nat} {d : Dk} {E : List (Fl × Nat)} {X : List Asn} {n : List UInt8}
theorem set_same {i : Nat} {f : Fl} (hd : d.R[i]? = some f) : ({ d with R := d.R.set i f } : Dk) = d := by
  have : d.R.set i f = d.R := by
    apply List.ext_getElem?
    intro j
    rw [List.getElem?_set]
    split
    · rename_i e
      subst e
      split
      · exact hd.symm
      · rename_i hh; rw [List.getElem?_eq_none (by omega)]
    · rfl
  rw [this]
/-- the file's bytes and what is sure of them turned -/
theorem turn_both {i : Nat} {x : Fl × Nat} {A A' : Option Addr} {c n' c' : Nat} {f' : Fl} (hE : DkE d (m, E)) (hi : E[i]? = some x) (hn : f'.nm = x.1.nm) (hok : ({ d with R := d.R.set i f' } : Dk).ok)
    (h : St W w (aRow 5 1 (.slice A' n' c') n' (cellsB f'.b) :: aBlk x.2 76 #[.slice A x.1.b.length c, .int .i64 (x.1.sure : Int)] :: aRow 5 1 (.slice A x.1.b.length c) x.1.b.length (cellsB x.1.b) :: aBlk p 49 #[.int .i64 d.room, .map (some m), .bool d.off] :: aMap Tryz.prog 9 m (dOf E) :: ((E.take i ++ E.drop (i + 1)).map aFile ++ X))) (hl : n' = f'.b.length) :
    St W ((w.setCell ⟨x.2, 0, none⟩ (.slice A' n' c')).setCell ⟨x.2, 1, none⟩ (.int .i64 (f'.sure : Int))) (aDisk p { d with R := d.R.set i f' } :: X) := by
  subst hl
  have h1 := h.rot3.drop.swap
  have h2 := aBlk.set (aBlk.set h1 0 (.slice A' f'.b.length c')) 1 (.int .i64 (f'.sure : Int))
  exact turn_back hE hi hn hok h2
set_option maxRecDepth 20000 in
theorem trunc_c {k : Int} (h : St W w (aDisk p d :: X)) (hn : n.length ≤ maxLen) (hk : k ≤ 9223372036854775807) : Calls Tryz.prog 48 #[.pointer (some ⟨p, 0, none⟩), .string (bstr n), .int .i64 k] w fun e w' => e = .returned (.int .i64 (truncF d n k).1) ∧ St W w' (aDisk p (truncF d n k).2 :: X) := by
  have H0 := Lib.hid h
  obtain ⟨m, E, hE, h⟩ := aDisk.open_ h
  cases hm : mayF d n with
  | mk o er =>
  cases o with
  | none =>
    have hf : truncF d n k = (er, d) := turn_none hm
    have HF := Lib.hid (find_no h hE hn hm)
    have q1 : (er != 0) = true := by simpa using may_none hm
    rw [hf]
    clear h hE hn hm hf
    go_enter Tryz.func48, Tryz.ntmps48
    go_wp2_with (first | (go_at_call 51; (with_reducible refine HF.out.mono ?_); rintro e w1 ⟨rfl, rfl⟩))
    go_ret
    exact ⟨rfl, H0.out⟩
  | some i =>
    obtain ⟨_, x, hx, _, hd⟩ := may_on hE hm
    have hf := turn_some (g := fun f => if k < 0 ∨ (f.b.length : Int) < k then (1, f) else (0, ⟨f.nm, f.b.take k.toNat, min f.sure k.toNat⟩)) hm hd
    have hok := trunc_ok hE.1 n k
    unfold truncF at hok ⊢
    rw [hf] at hok ⊢
    have HF := Lib.hid (find_yes h hE hn hm hx)
    obtain ⟨A, c, hv⟩ := turn_open h hx
    have hb := aBlk.get hv
    have c0 := hb.cell 0
    simp at c0
    have hxl := small_file hE hx
    by_cases h1 : k < 0
    · rw [if_pos (.inl h1)]
      simp only
      rw [set_same hd]
      obtain ⟨y, g⟩ := x
      simp only at c0 HF
      clear h hE hn hm hf hok hx hd hv hb hk
      go_enter Tryz.func48, Tryz.ntmps48
      go_wp2_with (first | (go_at_call 51; (with_reducible refine HF.out.mono ?_); rintro e w1 ⟨rfl, rfl⟩))
      go_ret
      exact ⟨rfl, H0.out⟩
    · by_cases h2 : (x.1.b.length : Int) < k
      · rw [if_pos (.inr h2)]
        simp only
        rw [set_same hd]
        obtain ⟨y, g⟩ := x
        simp only at c0 HF h2
        clear h hE hn hm hf hok hx hd hv hb hk
        go_enter Tryz.func48, Tryz.ntmps48
        go_wp2_with (first | (go_at_call 51; (with_reducible refine HF.out.mono ?_); rintro e w1 ⟨rfl, rfl⟩))
        go_ret
        exact ⟨rfl, H0.out⟩
      · rw [if_neg (by omega)] at hok ⊢
        simp only at hok ⊢
        obtain ⟨j, rfl⟩ := Int.eq_ofNat_of_zero_le (show 0 ≤ k by omega)
        rw [Int.toNat_natCast] at hok ⊢
        have hjl : j ≤ x.1.b.length := by omega
        obtain ⟨A0, cc, e0, hbs⟩ := file_bs hE hx h
        obtain ⟨rfl, rfl⟩ : A0 = A ∧ cc = c := by rw [c0] at e0; simp at e0; exact ⟨e0.1.symm, e0.2.symm⟩
        obtain ⟨A1, c1, s1, s2, hb1, _⟩ := hbs.cutTo j hjl
        have HC := Lib.hid (sclone_c hb1)
        have HV := Lib.hid (fun (w' : World) (hw : B w w') (v : Value) (hr : w'.ownsRow w.heap.size 5 1 v (x.1.b.take j).length (cellsB (x.1.b.take j))) => (hv.addRow hw hr))
        have HK := Lib.hid (fun (w' : World) (A' : Option Addr) (c' : Nat) (hS : St W w' (aRow 5 1 (.slice A' ((x.1.b.take j).length) c') ((x.1.b.take j).length) (cellsB (x.1.b.take j)) :: aBlk x.2 76 #[.slice A0 x.1.b.length cc, .int .i64 (x.1.sure : Int)] :: aRow 5 1 (.slice A0 x.1.b.length cc) x.1.b.length (cellsB x.1.b) :: aBlk p 49 #[.int .i64 d.room, .map (some m), .bool d.off] :: aMap Tryz.prog 9 m (dOf E) :: ((E.take i ++ E.drop (i + 1)).map aFile ++ X))) => turn_both (w := w') (A' := A') (c' := c') (n' := (x.1.b.take j).length) (f' := ⟨x.1.nm, x.1.b.take j, min x.1.sure j⟩) hE hx rfl hok hS rfl)
        have HB := Lib.hid (fun (w' : World) (hw : B w w') => show w'.cell? ⟨x.2, 0, none⟩ = some (.slice A0 x.1.b.length cc) ∧ w'.cell? ⟨x.2, 1, none⟩ = some (.int .i64 (x.1.sure : Int)) ∧ w'.frozen? ⟨x.2, 0, none⟩ = false ∧ w'.frozen? ⟨x.2, 1, none⟩ = false from by
          have hb2 := hb.later hw
          have k0 := hb2.cell 0
          have k1 := hb2.cell 1
          simp at k0 k1
          exact ⟨k0, k1, hb2.frozen 0, hb2.frozen 1⟩)
        have hl : (x.1.b.take j).length = j := by rw [List.length_take]; omega
        simp only [hl] at HK
        have HLJ := Lib.hid hl
        obtain ⟨y, g⟩ := x
        simp only at c0 HF h2 HV HK HB hxl s1 s2 HLJ
        have hj63 : (j : Int) ≤ 9223372036854775807 := hk
        by_cases hms : (y.sure : Int) ≤ j
        case' pos =>
          rw [show min y.sure j = y.sure by omega] at HK
          rw [show (min y.sure j) = y.sure by omega]
        case' neg =>
          rw [show min y.sure j = j by omega] at HK
          rw [show (min y.sure j) = j by omega]
        all_goals
          clear h hE hn hm hf hok hx hd hv hb hb1 hbs hk hl hjl e0
          go_enter Tryz.func48, Tryz.ntmps48
          go_wp2_with (first
            | (go_at_call 51; (with_reducible refine HF.out.mono ?_); rintro e w1 ⟨rfl, rfl⟩)
            | (go_at_call 8; (with_reducible refine HC.out.mono ?_); rintro e w2 ⟨v2, rfl, r2, hb2⟩; obtain ⟨k0, k1, f0, f1⟩ := HB.out _ hb2; have hS := HV.out _ hb2 _ r2; simp only [HLJ.out] at hS; obtain ⟨A2, c2, rfl⟩ := St.rowSlice hS; have H2 := Lib.hid hS; clear r2 hb2 hS c0))
          go_ret
          exact ⟨rfl, HK.out _ _ _ H2.out⟩
end
end Go.Proofs.YtoikjgcggmemaaaGreatDoor

/- Write of a disk. -/
namespace Go.Proofs.YtoikjgcggmemaaaGreatDoor
open Go.RowKit Go.Maps Go.Deep
set_option linter.unusedVariables false

section
variable {W w : World} {p m : Nat} {d : Dk} {E : List (Fl × Nat)} {X : List Asn} {n : List UInt8}
theorem cells_three (w : World) (a b c : Value) (T : TypeId) {x y z : List UInt8} (ha : Bs w a x) (hb : Bs w b y) (hc : Bs w c z) :
    ∀ (j : Nat) (s : List UInt8), [x, y, z][j]? = some s → ∃ u, (w.alloc (.cells #[a, b, c] T)).cell? ⟨w.heap.size, j, none⟩ = some u ∧ Bs (w.alloc (.cells #[a, b, c] T)) u s := by
  intro j s hj
  have hB := B.alloc' w (.cells #[a, b, c] T)
  have hk := Blk.new w T #[a, b, c]
  match j, hj with
  | 0, hj => simp at hj; subst hj; exact ⟨a, by rw [hk.cell]; rfl, ha.later hB⟩
  | 1, hj => simp at hj; subst hj; exact ⟨b, by rw [hk.cell]; rfl, hb.later hB⟩
  | 2, hj => simp at hj; subst hj; exact ⟨c, by rw [hk.cell]; rfl, hc.later hB⟩
  | k + 3, hj => simp at hj
theorem wrap_sub {a b : Int} (h : -9223372036854775808 ≤ a - b) (h2 : a - b ≤ 9223372036854775807) : IntKind.i64.wrap (a - b) = a - b := by
  simp [IntKind.wrap, IntKind.signed, IntKind.bits]; omega
theorem wrap_add {a b : Int} (h : -9223372036854775808 ≤ a + b) (h2 : a + b ≤ 9223372036854775807) : IntKind.i64.wrap (a + b) = a + b := by
  simp [IntKind.wrap, IntKind.signed, IntKind.bits]; omega
end
end Go.Proofs.YtoikjgcggmemaaaGreatDoor
