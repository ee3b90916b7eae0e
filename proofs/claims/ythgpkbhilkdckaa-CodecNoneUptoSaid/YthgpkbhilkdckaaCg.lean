/- Num of codec's reader. -/
import Derived.Test.YthgpkbhilkdckaaCf
namespace Go.Proofs.Ythgpkbhilkdckaa
open Go.RowKit
set_option linter.unusedVariables false

theorem andB (y : Nat) (h : y < 256) : bits BinOp.and IntKind.u8 (y : Int) 127 = ((y % 128 : Nat) : Int) := by
  have h' : ∀ k : Fin 256, bits BinOp.and IntKind.u8 ((k.val : Int)) 127 = ((k.val % 128 : Nat) : Int) := by decide +kernel
  exact h' ⟨y, h⟩
theorem or64 (a e : Nat) (ha : a < 18446744073709551616) (he : e < 18446744073709551616) : bits BinOp.or IntKind.u64 (a : Int) (e : Int) = ((a ||| e : Nat) : Int) := by
  have hlt : a ||| e < 2 ^ 64 := Nat.or_lt_two_pow (by omega) (by omega)
  have e0 : bits BinOp.or IntKind.u64 (a : Int) (e : Int) = IntKind.u64.wrap (((BitVec.ofInt 64 (a : Int) ||| BitVec.ofInt 64 (e : Int)).toNat : Nat) : Int) := rfl
  have e1 : (BitVec.ofInt 64 (a : Int)) = BitVec.ofNat 64 a := by simp
  have e2 : (BitVec.ofInt 64 (e : Int)) = BitVec.ofNat 64 e := by simp
  rw [e0, e1, e2, BitVec.toNat_or, BitVec.toNat_ofNat, BitVec.toNat_ofNat, Nat.mod_eq_of_lt (show a < 2 ^ 64 by omega), Nat.mod_eq_of_lt (show e < 2 ^ 64 by omega)]
  exact u64_id (by omega)
/-- one digit more -/
theorem numStep (acc q y : Nat) (hy : y < 256) (hq : q ≤ 9) (ha : acc < 128 ^ q) : ∃ d e s : Nat, IntKind.u64.wrap (bits BinOp.and IntKind.u8 (y : Int) 127) = (d : Int) ∧ IntKind.u64.wrap ((d : Int) * 2 ^ (7 * q)) = (e : Int) ∧ bits BinOp.or IntKind.u64 (acc : Int) (e : Int) = (s : Int) ∧
    ((q < 9 ∨ y ≤ 1) → s = acc + y % 128 * 128 ^ q) := by
  have hp9 : 128 ^ q ≤ 9223372036854775808 := Nat.le_trans (Nat.pow_le_pow_right (by omega) hq) (by decide)
  have hpw : (2 : Nat) ^ (7 * q) = 128 ^ q := by rw [Nat.pow_mul]
  refine ⟨y % 128, y % 128 * 128 ^ q % 18446744073709551616, acc ||| (y % 128 * 128 ^ q % 18446744073709551616), ?_, ?_, ?_, ?_⟩
  · rw [andB y hy, u64_id (by omega)]
  · have : ((y % 128 : Nat) : Int) * 2 ^ (7 * q) = ((y % 128 * 128 ^ q : Nat) : Int) := by rw [← hpw]; push_cast; rfl
    rw [this]
    simp [IntKind.wrap, IntKind.signed, IntKind.bits]
  · exact or64 _ _ (by omega) (Nat.mod_lt _ (by omega))
  · intro h
    have hlt : y % 128 * 128 ^ q < 18446744073709551616 := by
      rcases h with h | h
      · have h8 : 128 ^ q ≤ 72057594037927936 := Nat.le_trans (Nat.pow_le_pow_right (by omega) (show q ≤ 8 by omega)) (by decide)
        have := Nat.mul_le_mul (show y % 128 ≤ 127 by omega) h8
        omega
      · have := Nat.mul_le_mul (show y % 128 ≤ 1 by omega) hp9
        omega
    have ha' : acc < 2 ^ (7 * q) := by rw [hpw]; exact ha
    rw [Nat.mod_eq_of_lt hlt, ← hpw, Nat.or_comm, Nat.mul_comm, ← Nat.two_pow_add_eq_or_of_lt ha', Nat.add_comm]
theorem acc_lt {acc q d : Nat} (ha : acc < 128 ^ q) (hd : d < 128) : acc + d * 128 ^ q < 128 ^ (q + 1) := by
  rw [Nat.pow_succ]
  have := Nat.mul_le_mul_right (128 ^ q) (show d ≤ 127 by omega)
  omega
theorem numGo_end (most i acc : Nat) : numGo most i acc [] = (0, [], 10) := rfl
theorem numGo_more {most i acc : Nat} {c : UInt8} {r : List UInt8} (h : 127 < c.toNat) (h9 : i ≠ 9) : numGo most i acc (c :: r) = numGo most (i + 1) (acc + c.toNat % 128 * 128 ^ i) r := by
  rw [numGo, if_neg (by omega), if_pos h]
theorem numGo_over {most i acc : Nat} {c : UInt8} {r : List UInt8} (h9 : i = 9) (h : 1 < c.toNat) : numGo most i acc (c :: r) = (0, [], 11) := by
  rw [numGo, if_pos ⟨h9, h⟩]
theorem numGo_bad {most i acc : Nat} {c : UInt8} {r : List UInt8} (h : c.toNat ≤ 127) (hb : (0 < i ∧ c.toNat = 0) ∨ most < acc + c.toNat * 128 ^ i) : numGo most i acc (c :: r) = (0, [], 11) := by
  rw [numGo]
  split
  · rfl
  · split
    · omega
    · rfl
theorem numGo_good {most i acc : Nat} {c : UInt8} {r : List UInt8} (h : c.toNat ≤ 127) (h9 : ¬ (i = 9 ∧ 1 < c.toNat)) (hb : ¬ ((0 < i ∧ c.toNat = 0) ∨ most < acc + c.toNat * 128 ^ i)) : numGo most i acc (c :: r) = (acc + c.toNat * 128 ^ i, r, 0) := by
  rw [numGo, if_neg h9, if_neg (by omega), if_neg hb]
section
variable {W w : World} {p : Nat} {bs : List UInt8} {e : Int} {L : List Asn}
/-- the bytes stored anew -/
theorem RdAt.store {own : Nat → Prop} {bs' : List UInt8} (hR : RdAt own w p bs 0) {A' : Option Addr} {n' c' : Nat} (hb : Bs w (.slice A' n' c') bs') (hn : n' = bs'.length) (ho : ∀ A c, w.cell? ⟨p, 0, none⟩ = some (.slice A bs.length c) → ∀ g, (Value.slice A' n' c').ownBlock = some g → (Value.slice A bs.length c).ownBlock = some g) (hne : bs' ≠ [] → bs ≠ []) :
    RdAt own (w.setCell ⟨p, 0, none⟩ (.slice A' n' c')) p bs' 0 ∧ Ext own w (w.setCell ⟨p, 0, none⟩ (.slice A' n' c')) := by
  subst hn
  obtain ⟨A, c, b0, h1, h2, h3, h4, h5, h6⟩ := hR
  obtain rfl := h5 rfl
  have hp : Ext (fun g => g = p) w (w.setCell ⟨p, 0, none⟩ (.slice A' bs'.length c')) := (Ext.refl (fun g => g = p) w).set (p := ⟨p, 0, none⟩) (fun _ => rfl) _
  have hc := ho A c (by rw [h2.cell]; rfl)
  refine ⟨⟨A', c', bs', h1, by simpa using h2.set_ 0 (.slice A' bs'.length c'), hb.ext hp (fun g hg hne' e => ?_), fun g hg hne' => h4 g (hc g hg) (hne hne'), fun _ => rfl, fun h => absurd rfl h⟩, (Ext.refl own w).set (p := ⟨p, 0, none⟩) (fun _ => h1) _⟩
  subst e
  exact h3.ne_blk (hne hne') h2 (rd_nou8 _ _ _ _) (hc _ hg)
/-- what Num answers -/
def NumPost (W : World) (p : Nat) (L : List Asn) (r : Nat × List UInt8 × Int) (e' : Ending) (w' : World) : Prop :=
  e' = .returned (.int .u64 (r.1 : Int)) ∧ St W w' (aRd p r.2.1 r.2.2 :: L)
set_option maxRecDepth 20000 in
set_option maxHeartbeats 4000000 in
theorem St.num85_ok (h : St W w (aRd p bs 0 :: L)) (most : Nat) : Calls Try.prog 85 #[.pointer (some ⟨p, 0, none⟩), .int .u64 (most : Int)] w (NumPost W p L (numGo most 0 0 bs)) := by
  have HH := Lib.hid h
  obtain ⟨own, hR, ho, hback⟩ := h.focus
  have HR := Lib.hid hR
  have HBK := Lib.hid hback
  obtain ⟨A, c, b0, h1, h2, h3, h4, h5, h6⟩ := id hR
  obtain rfl := h5 rfl
  have HS := Lib.hid (stuck122 h2 false (by simp))
  have H3 := Lib.hid h3
  have c0 := h2.cell 0
  simp at c0
  have f0 := h2.frozen 0
  have hbl : (b0.length : Int) ≤ 140737488355328 := by have := h3.len; unfold big at this; omega
  obtain ⟨A', cap', hv, _, _, hF⟩ := h3.form
  injection hv with e1 _ e2
  subst e1 e2
  have HF := Lib.hid hF
  have HC0 := Lib.hid c0
  have fail := fun (k : Int) (r : Nat × List UInt8 × Int) (hr : r = (0, [], k)) (hk : k ≠ 0) => (St.fail84 h k).mono (R' := fun e' w' => e' = .returned (.tuple #[]) ∧ NumPost W p L r (.returned (.int .u64 0)) w') fun e' w' ⟨he, hS⟩ => ⟨he, by subst hr; exact ⟨rfl, by simpa [failB, failE, hk] using hS⟩⟩
  have FAIL := Lib.hid fail
  clear hF h3 h4 h5 h6 h2 hback hR h ho fail
  go_enter Try.func85, Try.ntmps85
  go_wp2_with (first | (go_at_call 122; (with_reducible refine HS.out.mono ?_); rintro e wn ⟨rfl, rfl⟩))
  go_loop [5, 10] (fun n i => ∃ (q acc : Nat), i = .int .i64 (q : Int) ∧ n = .int .u64 (acc : Int) ∧ q ≤ 10 ∧ Hid (q < 10 → q ≤ b0.length ∧ acc < 128 ^ q ∧ numGo most 0 0 b0 = numGo most q acc (b0.drop q)) ∧ Hid (q = 10 → numGo most 0 0 b0 = (0, [], 11))) (fun _ i => 10 - (intOf i).toNat)
  case atStart => exact ⟨0, 0, rfl, rfl, by omega, fun _ => ⟨by omega, by simp, by simp⟩, fun h => by omega⟩
  case round =>
    obtain ⟨q, acc, rfl, rfl, hq, HA, HB⟩ := hrel
    by_cases hlt : q < 10
    · have hq10 : (q : Int) < 10 := by omega
      have HL := Lib.hid (HA.out hlt)
      by_cases hl : q < b0.length
      · obtain ⟨b, off, rfl, hb, hc⟩ := HF.out (by omega)
        have k1 := hc q _ (List.getElem?_eq_getElem hl)
        have hqi : (q : Int) < b0.length := by omega
        have HD := Lib.hid (List.drop_eq_getElem_cons hl)
        obtain ⟨y, hy, hy2⟩ : ∃ y : Nat, y = b0[q].toNat ∧ y < 256 := ⟨_, rfl, b0[q].toNat_lt⟩
        obtain ⟨d, ee, s, s1, s2, s3, s4⟩ := numStep acc q y hy2 (by omega) HL.out.2.1
        have S4 := Lib.hid s4
        rw [← hy] at k1
        have HY := Lib.hid hy
        clear hc hy s4
        by_cases hc : 127 < y
        · have hci : (127 : Int) < y := by omega
          go_wp2_with fail
          go_round
          case rel =>
            refine ⟨q + 1, s, by go_num, rfl, by omega, fun h10 => ⟨by omega, ?_, ?_⟩, fun h10 => ?_⟩
            · rw [S4.out (by omega)]; exact acc_lt HL.out.2.1 (by omega)
            · rw [HL.out.2.2, HD.out, numGo_more (by rw [← HY.out]; exact hc) (by omega), S4.out (by omega), HY.out]
            · rw [HL.out.2.2, HD.out, numGo_over (by omega) (by rw [← HY.out]; omega)]
          case measure => simp [intOf]; omega
        · have hci : ¬ (127 : Int) < y := by omega
          have hym : y % 128 = y := by omega
          have HBAD := Lib.hid (fun (hb : (0 < q ∧ y = 0) ∨ most < acc + y * 128 ^ q) => show numGo most 0 0 b0 = (0, [], 11) by rw [HL.out.2.2, HD.out, numGo_bad (by rw [← HY.out]; omega) (by rw [← HY.out]; exact hb)])
          have HOV := Lib.hid (fun (h9 : q = 9) (hb : 1 < y) => show numGo most 0 0 b0 = (0, [], 11) by rw [HL.out.2.2, HD.out, numGo_over h9 (by rw [← HY.out]; exact hb)])
          have HGOOD := Lib.hid (fun (h9 : ¬ (q = 9 ∧ 1 < y)) (hb : ¬ ((0 < q ∧ y = 0) ∨ most < acc + y * 128 ^ q)) => show numGo most 0 0 b0 = (acc + y * 128 ^ q, b0.drop (q + 1), 0) by rw [HL.out.2.2, HD.out, numGo_good (by rw [← HY.out]; omega) (by rw [← HY.out]; exact h9) (by rw [← HY.out]; exact hb), HY.out])
          have HFZ := f0
          obtain ⟨A', c', r1, r2, hb', ho'⟩ := H3.out.cut (q + 1) (by omega)
          have r1 : ∀ w' : World, (Instr.slice 47 (.slice (some ⟨b, off, none⟩) b0.length c) (some (.int .i64 ((q : Int) + 1))) none none).run Try.prog w' = .ok (.slice A' (b0.length - (q + 1)) c') w' := fun w' => by have := r1 w'; rwa [show ((q + 1 : Nat) : Int) = (q : Int) + 1 by omega] at this
          have r2 : ∀ w' : World, (Instr.sliceAt 47 (.slice (some ⟨b, off, none⟩) b0.length c) (some (.int .i64 ((q : Int) + 1))) none none).run Try.prog w' = .ok (.slice A' (b0.length - (q + 1)) c') w' := fun w' => by have := r2 w'; rwa [show ((q + 1 : Nat) : Int) = (q : Int) + 1 by omega] at this
          have GD0 : ∀ (h9 : ¬ (q = 9 ∧ 1 < y)) (hb : ¬ ((0 < q ∧ y = 0) ∨ most < acc + y * 128 ^ q)) (hs : s = acc + y * 128 ^ q), NumPost W p L (numGo most 0 0 b0) (.returned (.int .u64 (s : Int))) (w.setCell ⟨p, 0, none⟩ (.slice A' (b0.length - (q + 1)) c')) := by
            intro h9 hb hs
            rw [HGOOD.out h9 hb, hs]
            have hst := HR.out.store hb' (by simp) (fun A c hc g hg => by rw [HC0.out] at hc; injection hc with hc; rw [← hc]; exact ho' g hg) (fun _ e => by rw [e] at hl; simp at hl)
            exact ⟨rfl, HBK.out _ (aRd p (b0.drop (q + 1)) 0) hst.2 (by obtain ⟨A, c, b1, h1, h2, h3, h4, h5, h6⟩ := hst.1; exact ⟨A, c, b1, .inl h1, h2, h3, fun g hg hne => .inl (h4 g hg hne), h5, h6⟩)⟩
          have GD1 := Lib.hid GD0
          clear hb' ho' GD0
          by_cases hq0 : 0 < q
          · have f1 : (0 : Int) < q := by omega
            by_cases hy0 : y = 0
            · have f2 : ((y : Int) == 0) = true := by simp; omega
              have hb := Lib.hid (HBAD.out (.inl ⟨hq0, hy0⟩))
              clear hy0
              go_wp2_with (first | (go_at_call 84; (with_reducible refine (FAIL.out 11 _ (hb.out) (by decide)).mono ?_); rintro e w1 ⟨rfl, hN⟩))
              go_ret
              exact hN
            · have f2 : ((y : Int) == 0) = false := by simp; omega
              by_cases h9 : q = 9
              · have f3 : ((q : Int) == 9) = true := by simp; omega
                by_cases h1 : 1 < y
                · have f4 : (1 : Int) < y := by omega
                  have hb := Lib.hid (HOV.out h9 h1)
                  clear h9
                  go_wp2_with (first | (go_at_call 84; (with_reducible refine (FAIL.out 11 _ (hb.out) (by decide)).mono ?_); rintro e w1 ⟨rfl, hN⟩))
                  go_ret
                  exact hN
                · have f4 : ¬ (1 : Int) < y := by omega
                  have H9 := Lib.hid h9
                  clear h9
                  by_cases hm : most < s
                  · have hmi : (most : Int) < s := by have := H9.out; omega
                    have hb := Lib.hid (HBAD.out (.inr (by have := S4.out (by have := H9.out; omega); rw [hym] at this; have := H9.out; omega)))
                    go_wp2_with (first | (go_at_call 84; (with_reducible refine (FAIL.out 11 _ (hb.out) (by decide)).mono ?_); rintro e w1 ⟨rfl, hN⟩))
                    go_ret
                    exact hN
                  · have hmi : ¬ (most : Int) < s := by have := H9.out; omega
                    have hs := Lib.hid (S4.out (by have := H9.out; omega))
                    have E := Lib.hid (GD1.out (by have := H9.out; omega) (by have := hs.out; rw [hym] at this; have := H9.out; omega) (by have := hs.out; rw [hym] at this; exact this))
                    go_wp2_with fail
                    go_ret
                    exact E.out
              · have f3 : ((q : Int) == 9) = false := by simp; omega
                by_cases hm : most < s
                · have hmi : (most : Int) < s := by omega
                  have hb := Lib.hid (HBAD.out (.inr (by have := S4.out (by omega); rw [hym] at this; omega)))
                  go_wp2_with (first | (go_at_call 84; (with_reducible refine (FAIL.out 11 _ (hb.out) (by decide)).mono ?_); rintro e w1 ⟨rfl, hN⟩))
                  go_ret
                  exact hN
                · have hmi : ¬ (most : Int) < s := by omega
                  have hs := Lib.hid (S4.out (by omega))
                  have E := Lib.hid (GD1.out (by omega) (by have := hs.out; rw [hym] at this; omega) (by have := hs.out; rw [hym] at this; exact this))
                  go_wp2_with fail
                  go_ret
                  exact E.out
          · have f1 : ¬ (0 : Int) < q := by omega
            have f3 : ((q : Int) == 9) = false := by simp; omega
            by_cases hm : most < s
            · have hmi : (most : Int) < s := by omega
              have hb := Lib.hid (HBAD.out (.inr (by have := S4.out (by omega); rw [hym] at this; omega)))
              go_wp2_with (first | (go_at_call 84; (with_reducible refine (FAIL.out 11 _ (hb.out) (by decide)).mono ?_); rintro e w1 ⟨rfl, hN⟩))
              go_ret
              exact hN
            · have hmi : ¬ (most : Int) < s := by omega
              have hs := Lib.hid (S4.out (by omega))
              have E := Lib.hid (GD1.out (by omega) (by have := hs.out; rw [hym] at this; omega) (by have := hs.out; rw [hym] at this; exact this))
              go_wp2_with fail
              go_ret
              exact E.out
      · have hqi : ¬ (q : Int) < b0.length := by omega
        have hb := Lib.hid (show numGo most 0 0 b0 = (0, [], 10) by rw [HL.out.2.2, List.drop_eq_nil_of_le (by omega)]; rfl)
        go_wp2_with (first | (go_at_call 84; (with_reducible refine (FAIL.out 10 _ hb.out (by decide)).mono ?_); rintro e w1 ⟨rfl, hN⟩))
        go_ret
        exact hN
    · have hqi : ¬ (q : Int) < 10 := by omega
      have hb := Lib.hid (HB.out (by omega))
      go_wp2_with (first | (go_at_call 84; (with_reducible refine (FAIL.out 11 _ hb.out (by decide)).mono ?_); rintro e w1 ⟨rfl, hN⟩))
      go_ret
      exact hN
end
end Go.Proofs.Ythgpkbhilkdckaa
