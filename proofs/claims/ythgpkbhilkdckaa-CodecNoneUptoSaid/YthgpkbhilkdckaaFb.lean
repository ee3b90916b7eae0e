/- CodecNone: the walk. -/
import Derived.Test.YthgpkbhilkdckaaFa
import Derived.Test.YthgpkbhilkdckaaDb
namespace Go.Proofs.Ythgpkbhilkdckaa
open Go.RowKit
set_option linter.unusedVariables false

section
variable {W w : World} {L : List Asn}
theorem St.bsOf {v : Value} {bs : List UInt8} (h : St W w L) (hm : aBy v bs ∈ L) (hl : bs.length ≤ big) : Bs w v bs := by
  obtain ⟨own, h1, h2⟩ := h.2.mem hm
  exact Bs.of_own h1 hl
theorem St.addMade (h : St W w L) {w' : World} {e : TypeId} {n : Nat} (hr : w'.ownsRow 0 e 1 (.slice (some ⟨w.heap.size, 0, none⟩) 0 n) 0 []) (hg : w.grownBy w' none) : St W w' (aRow e 1 (.slice (some ⟨w.heap.size, 0, none⟩) 0 n) 0 [] :: L) :=
  h.add (B.grown (Below.refl _ _) hg (fun k hk => by cases hk)) (A := aRow e 1 _ 0 []) (own := fun x => x = w.heap.size) ⟨hr, fun g hg => by simpa [Value.ownBlock] using hg.symm⟩ (fun x e => by omega)
theorem St.rowSet {e : TypeId} {sz n g c : Nat} {xs : List Value} (h : St W w (aRow e sz (.slice (some ⟨g, 0, none⟩) n c) n xs :: L)) (j : Nat) (u : Value) : St W (w.setCell ⟨g, j, none⟩ u) (aRow e sz (.slice (some ⟨g, 0, none⟩) n c) n (xs.set j u) :: L) := by
  obtain ⟨own, hr, ho, hback⟩ := h.focus
  obtain ⟨r1, r2⟩ := hr.1.stored j u
  exact hback _ (aRow e sz (.slice (some ⟨g, 0, none⟩) n c) n (xs.set j u)) ((Ext.refl own w).set (p := ⟨g, j, none⟩) (fun _ => hr.2 g rfl) u) ⟨r1, fun g' hg => .inl (hr.2 g' hg)⟩
end
section
variable {P : Program} {W w : World} {ops : Array Oper} {rest : List Oper} {o : Oper} {a : Act} {Q : Exit → Act → World → Prop} {L : List Asn}
/-- the append of an operation whose guard says yes -/
theorem wpList_append_StW (hw : Region.wanted o (yielded ops a.tmps) = true) (s x : Operand) (t : TypeId) (ho : o.op = .call { callee := .builtin .append, args := #[s, x], argTypes := #[t, t] })
    {e : TypeId} {z : Value} {sz bytes : Nat} (ht : P.underlying t = some (.slice e)) (hie : (P.info? e).map (fun i => (i.zero, i.size, i.bytes)) = some (some z, sz, bytes)) (hz : z.cells.size = sz) (hsz : 0 < sz)
    {n m : Nat} {v u : Value} {xs news : List Value} (hs : a.eval s = v) (hx : a.eval x = u) (hown : St W w (aRow e sz v n xs :: L)) (hu : Rd w u m sz news) (h1 : ∀ x ∈ news, x.oneCell' = true) (h63 : n + m ≤ maxLen) (hroom : (n + m) * bytes ≤ 140737488355328)
    (h : ∀ A c w', St W w' (aRow e sz (.slice A (n + m) c) (n + m) (xs ++ news) :: L) → wpList P ops Q rest (a.put o.dst (.slice A (n + m) c)) w') :
    wpList P ops Q (o :: rest) a w := by
  obtain ⟨own, hr, ho', hback⟩ := hown.focus
  obtain ⟨v', w', hrun, r1, x1, y1⟩ := append_Rd (P := P) (t := t) (ty := o.type) ht hie hz hsz hr.1 hu h1 h63 hroom (Nat.zero_le _)
  obtain ⟨A, c, rfl⟩ := own_slice r1
  refine wpList_step fun K hK => ?_
  rw [if_pos hw]
  refine wp_append_run s x t ho hs hx hrun (hK _ _ (h A c w' (hback w' (aRow e sz (.slice A (n + m) c) (n + m) (xs ++ news)) ((Ext.refl own w).grown x1 (fun g e' _ => hr.2 g e')) ⟨r1, fun g hg => ?_⟩)))
  rcases y1 with e' | e'
  · exact .inl (hr.2 g (by rw [← e', hg]))
  · right; rw [e'] at hg; injection hg with hg; omega
end
theorem putNum70i {w : World} {v : Value} {bs : List UInt8} (h : Bs w v bs) (n : Nat) (k : Int) (hk : (n : Int) = k) (hn : n < 18446744073709551616) (hl : bs.length + 10 ≤ big) : Calls Try.prog 70 #[v, .int .u64 k] w (Fresh w (bs ++ enc n)) := by
  subst hk; exact putNum70 h n hn hl
theorem putNum71i {w : World} {v : Value} {bs : List UInt8} (h : Bs w v bs) (n : Nat) (k : Int) (hk : (n : Int) = k) (hn : n < 18446744073709551616) (hl : bs.length + 10 ≤ big) : Calls Try.prog 71 #[v, .int .u64 k] w (Fresh w (bs ++ enc n)) := by
  subst hk; exact putNum71 h n hn hl
theorem St.getBs {W w : World} {L : List Asn} {v : Value} {bs : List UInt8} (h : St W w (aBs v bs :: L)) : Bs w v bs := by
  obtain ⟨own, h1, _⟩ := h.get
  exact h1.1
theorem takeS_all (bs : List UInt8) : takeS bs 0 (bs.length : Int) = (bs, [], 0) := by
  unfold takeS
  rw [if_neg (by simp), if_neg (by omega), if_neg (by omega)]
  simp

set_option maxRecDepth 100000 in
set_option maxHeartbeats 4000000 in
theorem codecNone_walk {W : World} {u : Value} {bs : List UInt8} {n : Nat} (hb : Bs W u bs) (hn : n < 18446744073709551616) (h1 : bs.length ≤ 1048576) :
    Calls Try.prog 12 #[u, .int .u64 (n : Int)] W fun e w' => e = .returned (.bool true) ∧ B W w' := by
  obtain ⟨Ab, cb, rfl⟩ := hb.rd.slice
  have HB := Lib.hid hb
  have HN := Lib.hid hn
  have H1 := Lib.hid h1
  have LB := Lib.hid (show bs.length ≤ big by unfold big; omega)
  have LB10 := Lib.hid (show bs.length + 10 ≤ big by unfold big; omega)
  have hli : (bs.length : Int) ≤ 1048576 := by omega
  obtain ⟨i5, hi, hz0, hz1, hz2⟩ := info_parts info5
  clear hb hn h1
  go_enter Try.func12, Try.ntmps12
  go_wp2_with (first
    | (go_at_call 69; (with_reducible refine (live69 (St.nil W)).mono ?_); rintro e w1 ⟨rfl, hS⟩; have HS1 := Lib.hid hS; clear hS))
  have hE1 : Blk ((w1.alloc (.cells #[.slice none 0 0, .int .i64 0, .bool false] 94)).alloc (.cells #[.pointer none, .pointer (some ⟨w1.heap.size, 0, none⟩)] 82)) w1.heap.size 94 #[.slice none 0 0, .int .i64 0, .bool false] := (Blk.new w1 _ _).alloc _
  have hE2 : Blk ((w1.alloc (.cells #[.slice none 0 0, .int .i64 0, .bool false] 94)).alloc (.cells #[.pointer none, .pointer (some ⟨w1.heap.size, 0, none⟩)] 82)) (w1.heap.size + 1) 82 #[.pointer none, .pointer (some ⟨w1.heap.size, 0, none⟩)] := by simpa using Blk.new (w1.alloc (.cells #[.slice none 0 0, .int .i64 0, .bool false] 94)) 82 #[.pointer none, .pointer (some ⟨w1.heap.size, 0, none⟩)]
  have HS2 := Lib.hid ((HS1.out.later (B.alloc' w1 (.cells #[.slice none 0 0, .int .i64 0, .bool false] 94))).later (B.alloc' _ (.cells #[.pointer none, .pointer (some ⟨w1.heap.size, 0, none⟩)] 82)))
  generalize (w1.alloc (.cells #[.slice none 0 0, .int .i64 0, .bool false] 94)).alloc (.cells #[.pointer none, .pointer (some ⟨w1.heap.size, 0, none⟩)] 82) = w2 at *
  have HE := Lib.hid (show ∀ q : Nat, q < 2 → ∃ v, w2.cell? ⟨w1.heap.size + 1, q, none⟩ = some v ∧ NoRd w2 v from fun q hq => by
    rcases q with _ | _ | q
    · exact ⟨_, by rw [hE2.cell]; rfl, .inl rfl⟩
    · exact ⟨_, by rw [hE2.cell]; rfl, .inr ⟨_, rfl, hE1⟩⟩
    · omega)
  clear hE1 hE2
  generalize w1.heap.size = g1 at *
  go_loop [22] (fun i => ∃ q : Nat, q ≤ 2 ∧ i = .int .i64 q) (fun i => 2 - (intOf i).toNat)
  case atStart => exact ⟨0, by omega, rfl⟩
  case round =>
    obtain ⟨q, hq, rfl⟩ := hrel
    by_cases hlt : q < 2
    · obtain ⟨v, hc, hN⟩ := HE.out q hlt
      have HN' := Lib.hid hN
      have hqi : (q : Int) < 2 := by omega
      clear hN
      go_wp2_with (first
        | (go_at_call 84; (with_reducible refine (fail84n HN'.out _).mono ?_); rintro e w3 ⟨rfl, rfl⟩)
        | (go_at_call 85; (with_reducible refine (num85n HN'.out _).mono ?_); rintro e w3 ⟨rfl, rfl⟩)
        | (go_at_call 86; (with_reducible refine (take86n HN'.out).mono ?_); rintro e w3 ⟨rfl, rfl⟩)
        | (go_at_call 87; (with_reducible refine (bytes87n HN'.out).mono ?_); rintro e w3 ⟨rfl, rfl⟩)
        | (go_at_call 88; (with_reducible refine (list88n HN'.out).mono ?_); rintro e w3 ⟨rfl, rfl⟩)
        | (go_at_call 81; (with_reducible refine (left81n HN'.out).mono ?_); rintro e w3 ⟨rfl, rfl⟩)
        | (go_at_call 80; (with_reducible refine (err80n HN'.out).mono ?_); rintro e w3 ⟨rfl, rfl⟩)
        | (go_at_call 82; (with_reducible refine (done82n HN'.out).mono ?_); rintro e w3 ⟨rfl, rfl⟩))
      go_round
      case rel => exact ⟨q + 1, by omega, by go_num⟩
      case measure => simp [intOf]; omega
    · have hqi : ¬ (q : Int) < 2 := by omega
      have g1' : 0 + bs.length ≤ maxLen := by have := H1.out; unfold maxLen; omega
      have g2' : (0 + bs.length) * 1 ≤ 140737488355328 := by have := H1.out; omega
      have o1 := cellsB_one bs
      have m1 : ((bs.length : Int) + 40) = ((bs.length + 40 : Nat) : Int) := by omega
      have m2 : i5.bytes * (bs.length + 40) ≤ 281474976710656 := by rw [hz2]; have := H1.out; omega
      have m3 : bs.length + 40 ≤ maxLen := by have := H1.out; unfold maxLen; omega
      have M1 := Lib.hid m1
      have HN2 := Lib.hid (show n / 2 < 18446744073709551616 by have := HN.out; omega)
      have LZ1 := Lib.hid (show (bs ++ enc n).length ≤ big by have := enc_10 HN.out; have := H1.out; unfold big; simp; omega)
      have LZ2 := Lib.hid (show (bs ++ enc (n / 2)).length ≤ big by have := enc_10 HN2.out; have := H1.out; unfold big; simp; omega)
      have HTK := Lib.hid (takeS_all bs)
      have HD2 := Lib.hid (show ((n / 2 : Nat) : Int) = (n : Int) / 2 by omega)
      have hw2 : IntKind.u64.wrap ((n : Int) / 2) = (n : Int) / 2 := u64_id (by have := HN.out; omega)
      have HLI := Lib.hid (show -9223372036854775808 ≤ (bs.length : Int) ∧ (bs.length : Int) ≤ 9223372036854775807 by omega)
      clear m1 HE hlt
      go_wp2_with (first
        | (refine wpList_make_own w2 rfl (.const (.int .i64 0)) (.tmp 67) 47 rfl 0 5 i5 (.int .u8 0) 1 Try.underlying47 hi hz0 hz1 .i64 .i64 ((bs.length : Int) + 40) (bs.length + 40) rfl rfl M1.out m2 m3 (Nat.zero_le _) ?_; intro w3 r3 x3; have HS3 := Lib.hid (HS2.out.addMade r3 x3); clear r3 x3)
        | (at_builtin; refine wpList_append_St rfl (.tmp 68) (.tmp 69) 47 rfl Try.underlying47 info5 rfl Nat.zero_lt_one rfl rfl HS3.out ((HB.out.later HS3.out.b).rd) o1 g1' g2' ?_; intro A4 c4 w4 hS; simp only [Nat.zero_add, List.nil_append] at hS ⊢; have HS4 := Lib.hid (show St W w4 [aBy (.slice A4 bs.length c4) bs] from hS); clear hS)
        | (go_at_call 89; (with_reducible refine (HS4.out.fresh (show Calls Try.prog 89 _ _ (Fresh w4 bs) from clone89 (HB.out.later HS4.out.b))).mono ?_); rintro e w5 ⟨v5, rfl, hS⟩; have HS5 := Lib.hid hS; clear hS)
        | (go_at_call 70; (with_reducible refine (HS5.out.fresh (putNum70 (HS5.out.bsOf (v := .slice A4 bs.length c4) (bs := bs) (by simp) LB.out) n HN.out LB10.out)).mono ?_); rintro e w6 ⟨v6, rfl, hS⟩; have HS6 := Lib.hid hS; clear hS)
        | (go_at_call 70; (with_reducible refine (HS6.out.fresh (putNum70i (HS6.out.bsOf (v := .slice A4 bs.length c4) (bs := bs) (by simp) LB.out) (n / 2) ((n : Int) / 2) HD2.out HN2.out LB10.out)).mono ?_); rintro e w7 ⟨v7, rfl, hS⟩; have HS7 := Lib.hid hS; clear hS)
        | (go_at_call 77; (with_reducible refine (St.read77 HS7.out (HS7.out.bsOf (v := .slice A4 bs.length c4) (bs := bs) (by simp) LB.out)).mono ?_); rintro e w8 ⟨p, rfl, hS⟩; have HS8 := Lib.hid hS; clear hS)
        | (go_at_call 86; (with_reducible refine (St.take86 HS8.out (bs.length : Int) HLI.out).mono ?_); rintro e w9 ⟨v9, rfl, hS⟩; rw [HTK.out] at hS; have HS9 := Lib.hid hS.rot4; obtain ⟨A9, c9, rfl⟩ := hS.bySlice; clear hS))
      have LZR := Lib.hid (show ∀ q, ((bs ++ enc n) ++ bs.take q).length + 1 ≤ 4194304 from fun q => by have := enc_10 HN.out; have := H1.out; have := List.length_take_le q bs; simp; omega)
      have HCL := Lib.hid ((HS9.out.bsOf (v := .slice A9 bs.length c9) (bs := bs) (by simp) LB.out).form)
      go_loopw [9, 87] (fun v i wr => ∃ (q : Nat), q ≤ bs.length ∧ i = .int .i64 (q : Int) ∧ Hid (St W wr [aBy v ((bs ++ enc n) ++ bs.take q), aBy (.slice A9 bs.length c9) bs, aRd p [] 0, aBy v7 (bs ++ enc (n / 2)), aBy v5 bs, aBy (.slice A4 bs.length c4) bs])) (fun _ i _ => bs.length - (intOf i).toNat)
      case atStart => exact ⟨0, Nat.zero_le _, rfl, by show St _ _ _; simpa using HS9.out⟩
      case round =>
        obtain ⟨q2, hq2, rfl, HT⟩ := hrel
        obtain ⟨A10, c10, hv10⟩ := HT.out.bySlice
        obtain ⟨k10, hk10⟩ : ∃ k, ((bs ++ enc n) ++ bs.take q2).length = k := ⟨_, rfl⟩
        rw [hk10] at hv10
        subst hv10
        by_cases hlt2 : q2 < bs.length
        · obtain ⟨Ax, cx, hvx, _, _, hcx⟩ := (HT.out.bsOf (v := .slice A9 bs.length c9) (bs := bs) (by simp) LB.out).form
          injection hvx with e1 _ e2
          obtain ⟨b, off, rfl, hb1, hcc⟩ := hcx (by omega)
          subst e1 e2
          have k1 := hcc q2 _ (List.getElem?_eq_getElem hlt2)
          have hqi2 : (q2 : Int) < bs.length := by omega
          have HTK2 := Lib.hid (show bs.take (q2 + 1) = bs.take q2 ++ [bs[q2]] by rw [List.take_add_one, List.getElem?_eq_getElem hlt2]; rfl)
          have HK := Lib.hid hk10
          have hz := LZR.out q2
          rw [hk10] at hz
          have f1 : k10 + 1 ≤ maxLen := by unfold maxLen; omega
          have f2 : (k10 + 1) * 1 ≤ 140737488355328 := by omega
          have o2 := cellsB_one [bs[q2]]
          obtain ⟨y, hy⟩ : ∃ y : Int, (bs[q2].toNat : Int) = y := ⟨_, rfl⟩
          have HY := Lib.hid hy
          rw [hy] at k1
          clear hcc hcx hk10 hz hy
          go_wp2_with (at_builtin; refine wpList_append_St rfl (.tmp 91) (.tmp 93) 47 rfl Try.underlying47 info5 rfl Nat.zero_lt_one rfl rfl (show St W _ (aRow 5 1 (.slice A10 k10 c10) k10 (cellsB ((bs ++ enc n) ++ bs.take q2)) :: _) from by have := HT.out.later (B.alloc' wr (.cells #[.int .u8 y] 5)); rw [← HK.out]; rw [← HK.out] at this; exact this) (Rd.byte wr bs[q2] y HY.out) o2 f1 f2 ?_; intro A11 c11 w11 hS; have HT2 := Lib.hid hS; clear hS)
          go_roundw
          case rel =>
            refine ⟨q2 + 1, by omega, by go_num, ?_⟩
            show St _ _ _
            have := HT2.out
            rw [HTK2.out, ← List.append_assoc]
            have e : aRow 5 1 (.slice A11 (k10 + 1) c11) (k10 + 1) (cellsB ((bs ++ enc n) ++ bs.take q2) ++ cellsB [bs[q2]]) = aBy (.slice A11 (k10 + 1) c11) ((bs ++ enc n) ++ bs.take q2 ++ [bs[q2]]) := by
              unfold aBy
              rw [← cellsB_app, List.length_append, HK.out]; rfl
            rw [e] at this
            exact this
          case measure => simp [intOf]; omega
        · have hqi2 : ¬ (q2 : Int) < bs.length := by omega
          have HTE := Lib.hid (show (bs ++ enc n) ++ bs.take q2 = (bs ++ enc n) ++ bs by rw [List.take_of_length_le (by omega)])
          have HT2 := Lib.hid (HTE.out ▸ HT.out)
          go_wp2_with (first
            | (go_at_call 77; (with_reducible refine (St.read77 HT2.out (HT2.out.bsOf (v := .slice A4 bs.length c4) (bs := bs) (by simp) LB.out)).mono ?_); rintro e w12 ⟨p3, rfl, hS⟩; have HU1 := Lib.hid hS; clear hS)
            | (go_at_call 86; (with_reducible refine (St.take86 HU1.out (bs.length : Int) HLI.out).mono ?_); rintro e w13 ⟨v13, rfl, hS⟩; rw [HTK.out] at hS; have HU2 := Lib.hid hS; obtain ⟨A13, c13, rfl⟩ := hS.bySlice; clear hS))
          have LF := Lib.hid (show ((bs ++ enc n) ++ bs).length ≤ big by have := enc_10 HN.out; have := H1.out; unfold big; simp; omega)
          have f1 : (bs ++ enc n).length + bs.length ≤ maxLen := by have := enc_10 HN.out; have := H1.out; unfold maxLen; simp; omega
          have f2 : ((bs ++ enc n).length + bs.length) * 1 ≤ 140737488355328 := by have := enc_10 HN.out; have := H1.out; simp; omega
          go_loopw [103] (fun i wr => ∃ (q : Nat) (cells : List Value), q ≤ bs.length ∧ i = .int .i64 (q : Int) ∧ Hid (∀ j, j < bs.length → ∃ y : Int, cells[j]? = some (.int .u8 y)) ∧ Hid (St W wr (aRow 5 1 (.slice A13 bs.length c13) bs.length cells :: [aRd p3 [] 0, aBy (.slice A10 k10 c10) ((bs ++ enc n) ++ bs), aBy (.slice A9 bs.length c9) bs, aRd p [] 0, aBy v7 (bs ++ enc (n / 2)), aBy v5 bs, aBy (.slice A4 bs.length c4) bs]))) (fun i _ => bs.length - (intOf i).toNat)
          case atStart => exact ⟨0, cellsB bs, Nat.zero_le _, rfl, fun j hj => ⟨_, cellsB_get bs j hj⟩, HU2.out⟩
          case round =>
            obtain ⟨q3, cells, hq3, rfl, HY, HT3⟩ := hrel
            by_cases hlt3 : q3 < bs.length
            · obtain ⟨g, c', hv, hcl, hfz⟩ := HT3.out.row_form (by omega) (by omega)
              injection hv with e1 _ e2
              subst e1 e2
              obtain ⟨y, hy⟩ := HY.out q3 hlt3
              have k1 := hcl q3 (by omega)
              rw [hy] at k1
              have k2 := hfz q3
              have hqi3 : (q3 : Int) < bs.length := by omega
              clear hcl hfz hy
              go_wp2_with fail
              go_roundw
              case rel =>
                refine ⟨q3 + 1, cells.set q3 _, by omega, by go_num, fun j hj => ?_, HT3.out.rowSet q3 _⟩
                rw [List.getElem?_set]
                split
                · obtain ⟨y', hy'⟩ := HY.out j hj
                  have hjl : j < cells.length := by
                    rcases Nat.lt_or_ge j cells.length with h | h
                    · exact h
                    · rw [List.getElem?_eq_none h] at hy'; cases hy'
                  split
                  · exact ⟨_, rfl⟩
                  · omega
                · exact HY.out j hj
              case measure => simp [intOf]; omega
            · have hqi3 : ¬ (q3 : Int) < bs.length := by omega
              have HX := Lib.hid HT3.out.drop
              go_wp2_with (first
                | (go_at_call 68; (with_reducible refine (equal68 (HX.out.bsOf (v := .slice A4 bs.length c4) (bs := bs) (by simp) LB.out) (HX.out.bsOf (v := v5) (bs := bs) (by simp) LB.out)).mono ?_); rintro e w14 ⟨rfl, rfl⟩; simp only [beq_self_eq_true])
                | (go_at_call 71; (with_reducible refine (HX.out.fresh (putNum71i (HX.out.bsOf (v := v5) (bs := bs) (by simp) LB.out) (n / 2) ((n : Int) / 2) HD2.out HN2.out LB10.out)).mono ?_); rintro e w15 ⟨v15, rfl, hS⟩; have HX1 := Lib.hid hS; clear hS)
                | (go_at_call 68; (with_reducible refine (equal68 (HX1.out.bsOf (v := v7) (bs := bs ++ enc (n / 2)) (by simp) LZ2.out) (HX1.out.byBs LZ2.out)).mono ?_); rintro e w16 ⟨rfl, rfl⟩; simp only [beq_self_eq_true])
                | (go_at_call 71; (with_reducible refine (HX1.out.fresh (putNum71 (HX1.out.bsOf (v := v5) (bs := bs) (by simp) LB.out) n HN.out LB10.out)).mono ?_); rintro e w17 ⟨v17, rfl, hS⟩; have HX2 := Lib.hid hS; clear hS)
                | (at_builtin; refine wpList_append_StW rfl (.tmp 128) (.tmp 129) 47 rfl Try.underlying47 info5 rfl Nat.zero_lt_one rfl rfl HX2.out ((HX2.out.bsOf (v := v5) (bs := bs) (by simp) LB.out).rd) o1 f1 f2 ?_; intro A18 c18 w18 hS; have HX3 := Lib.hid (show St W w18 (aRow 5 1 (.slice A18 ((bs ++ enc n).length + bs.length) c18) ((bs ++ enc n).length + bs.length) (cellsB (bs ++ enc n) ++ cellsB bs) :: _) from hS); have hx4 := aRow.bs_app rfl rfl LF.out hS; rw [List.length_append] at hx4; have HX4 := Lib.hid hx4; have HBO := Lib.hid (HX3.out.bsOf (v := .slice A10 k10 c10) (bs := (bs ++ enc n) ++ bs) (by simp) LF.out); clear hS hx4)
                | (go_at_call 68; (with_reducible refine (equal68 HBO.out HX4.out.getBs).mono ?_); rintro e w19 ⟨rfl, rfl⟩; simp only [beq_self_eq_true]))
              go_ret
              exact ⟨by simp, HX4.out.b⟩
end Go.Proofs.Ythgpkbhilkdckaa
