/- Lemmas and contracts, part 16. -/
import Derived.Test.YtoikjgcggmemaaaGreatDoorZb15
import Derived.Laws.CopyOwn
import Derived.Laws.MakeOwn
/- Bytes made and copied; Append on a log. -/
namespace Go.Proofs.YtoikjgcggmemaaaGreatDoor
open Go.RowKit Go.Deep Go.Maps
set_option linter.unusedVariables false

section
variable {W w : World} {L : List Asn} {ops : Array Oper} {rest : List Oper} {o : Oper} {a : Act} {Q : Exit → Act → World → Prop}
def mk8 (n : Nat) : Array Value := madeCells (Value.int .u8 0).cells (n * 1)
theorem mk8_size (n : Nat) : (mk8 n).size = n := by unfold mk8; rw [size_madeCells]; omega
theorem run_mk8 (w : World) (n : Nat) (hn : n ≤ 4194304000) : (Instr.makeSlice 32 (.int .i64 (n : Int)) (.int .i64 (n : Int))).run Tryz.prog w = .ok (.slice (some ⟨w.heap.size, 0, none⟩) n n) (w.alloc (.cells (mk8 n) 5)) := by
  obtain ⟨i0, hi, hz0, hz1, hz2⟩ := info_parts info5
  have := run_make (P := Tryz.prog) (w := w) 32 5 i0 (.int .u8 0) Tryz.underlying32 hi hz0 .i64 .i64 (n : Int) (n : Int) (by omega) (by omega) (by rw [hz2]; omega) (by omega)
  rw [hz1, Int.toNat_natCast] at this
  exact this
/-- 'copy(x, b)' into bytes just made -/
theorem wpList_copy_B (hgd : o.guard = none) (d s : Operand) (ho : o.op = .call { callee := .builtin .copy, args := #[d, s], argTypes := #[32, 32] }) {u : Value} {b : List UInt8} {n : Nat}
    (hd : a.eval d = .slice (some ⟨w.heap.size, 0, none⟩) n n) (hs : a.eval s = u) (hn : b.length = n) (hL : St W w L) (hu : Bs w u b)
    (h : ∀ w', St W w' (aBy (.slice (some ⟨w.heap.size, 0, none⟩) n n) b :: L) → wpList Tryz.prog ops Q rest (a.put o.dst (goInt n)) w') : wpList Tryz.prog ops Q (o :: rest) a (w.alloc (.cells (mk8 n) 5)) := by
  obtain ⟨A, c, rfl⟩ := hu.rd.slice
  have hub := hu.later (B.alloc' w (.cells (mk8 n) 5))
  have hsz : (w.alloc (.cells (mk8 n) 5)).heap.size = w.heap.size + 1 := by simp
  refine wpList_copy_splice (P := Tryz.prog) hgd d s 32 32 ho 5 Tryz.underlying32 (by kernel_rfl) (some ⟨w.heap.size, 0, none⟩) A n n b.length c hd hs w.heap.size 0 (mk8 n).toList 5 (by rw [Array.toArray_toList]; exact heap_alloc_new w _) (cellsB b) (by rw [cellsB_len, hn]; simp)
    (fun hp => ⟨rfl, ?_⟩) (by rw [cellsB_len, hn]; simp [mk8_size]) (cellsB_one b) w.heap.size (w.alloc (.cells (mk8 n) 5)) (Below.refl _ _) (Nat.le_refl _) ?_
  · obtain ⟨⟨A', cap, he, hnn, hc, hm, hr⟩, hl⟩ := hub
    injection he with e1 e2 e3
    subst e1
    cases A with
    | none => have := (hnn rfl).1; subst this; simp [cellsB] at hp
    | some ad => exact ⟨ad, rfl, (hr ad rfl).2⟩
  · intro w' hg hb
    have e0 : splice (mk8 n).toList 0 (cellsB b) = cellsB b := by
      have : (mk8 n).toList.length = n := by simp [mk8_size]
      unfold splice
      rw [List.drop_eq_nil_of_le (by rw [cellsB_len, hn, this]; omega)]
      simp
    have hg := hg.out
    rw [e0] at hg
    rw [cellsB_len, hn]
    have hB : B w w' := ⟨hb.os, hb.tape, hb.output, by have := hb.size; rw [hsz] at this; omega, fun k hk => by
      rw [hb.block k hk]
      exact (B.alloc' w (.cells (mk8 n) 5)).block k hk⟩
    refine h w' (hL.add hB (A := aBy (.slice (some ⟨w.heap.size, 0, none⟩) n n) b) (own := fun x => x = w.heap.size) ⟨?_, fun g hg => by simpa [Value.ownBlock] using hg.symm⟩ (fun x e => by omega))
    rw [hn]
    exact ⟨by rw [cellsB_len, hn]; omega, .inr ⟨_, n, (cellsB b).toArray, rfl, Nat.zero_le _, hg, Nat.le_refl _, by have := hu.2; unfold big at this; unfold maxLen; omega, by simp [cellsB_len, hn], by rw [List.take_of_length_le (by simp [cellsB_len, hn])]⟩⟩
end
end Go.Proofs.YtoikjgcggmemaaaGreatDoor

/- Append on a log with one segment. -/
namespace Go.Proofs.YtoikjgcggmemaaaGreatDoor
open Go.RowKit Go.Deep Go.Maps
set_option linter.unusedVariables false

def Lg.add (g : Lg) (b : List UInt8) : Lg := { g with L := g.L ++ [b], size := g.size + ((frameF b).length : Int) }
theorem frame_len {b : List UInt8} (h : b.length ≤ 524288) : (frameF b).length ≤ 524302 := by
  have := body_len h
  unfold frameF
  rw [List.length_append]
  simp [le4]; omega
section
variable {W w : World} {p dp : Nat} {X : List Asn} {g : Lg} {d d' : Dk} {u : Value} {b : List UInt8}
set_option maxRecDepth 20000 in
set_option maxHeartbeats 8000000 in
theorem Lappend_c (h : St W w (aLg p dp g :: aDisk dp d :: X)) (hu : ∀ (w' : World) (Y : List Asn), St W w' (Y ++ X) → Bs w' u b) (hb : b.length ≤ 524288) (hg1 : g.n = 1) (hroll : g.L = [] ∨ g.size < g.most) (hn : g.name.length ≤ 4194304) (hap : appendF d (file1 g.name) (frameF b) = (0, d'))
    (hsz : 0 ≤ g.size ∧ g.size ≤ 1099511627776) (hl : g.L.length + 1 ≤ 1099511627776) :
    Calls Tryz.prog 7 #[.pointer (some ⟨p, 0, none⟩), u] w fun e w' => e = .returned (.tuple #[.int .i64 (lastF (g.add b)), .int .i64 0]) ∧ St W w' (aLg p dp (g.add b) :: aDisk dp d' :: X) := by
  obtain ⟨s, c, vL, hE, h⟩ := aLg.open_ h
  have HN := Lib.hid (Lnone_o h)
  obtain ⟨AL, cL, rfl⟩ := lgL.recs h
  have hu0 : Bs w u b := hu w (lgL p dp g s c (.slice AL g.L.length cL) ++ [aDisk dp d]) h
  have HFR := Lib.hid (frame_yes h hu0 hb)
  have HU := Lib.hid hu
  have HFL := Lib.hid (frame_len hb)
  have hfn : (file1 g.name).length ≤ maxLen := by simp [file1]; unfold maxLen; omega
  have HFI := Lib.hid (fun w' => file_c w' (n := g.name) (by omega))
  obtain ⟨Au, cu, rfl⟩ := hu0.rd.slice
  have HE2 : LgE (g.add b) := ⟨by simp [Lg.add]; omega, hE.2.1, hE.2.2⟩
  have HEE := Lib.hid HE2
  have HAP := Lib.hid (fun w' v Y (hS : St W w' (aDisk dp d :: Y)) (hv : Bs w' v (frameF b)) => show Calls Tryz.prog 30 #[.pointer (some ⟨dp, 0, none⟩), .string (bstr (file1 g.name)), v] w' fun e w'' => e = .returned (.int .i64 0) ∧ St W w'' (aDisk dp d' :: Y) from by
    have := append_c hS hfn hv (by have := HFL.out; omega)
    rw [hap] at this
    exact this)
  have HSL := Lib.hid (fun w' A c' => segLast_c (g := g.add b) w' HE2 (A := A) (c' := c'))
  obtain ⟨name, most, sure, sn, first, size, L⟩ := g
  simp only [Lg.add] at *
  subst hg1
  have HL1 := Lib.hid (show (L ++ [b]).length = L.length + 1 by simp)
  generalize lastF { name := name, most := most, sure := sure, n := 1, first := first, size := size + ((frameF b).length : Int), L := L ++ [b] } = z at *
  rw [HL1.out] at HSL
  obtain ⟨fl, hfl⟩ : ∃ fl, (frameF b).length = fl := ⟨_, rfl⟩
  have HFLE := Lib.hid hfl
  have hfl2 : fl ≤ 524302 := by have := HFL.out; omega
  rw [hfl] at HSL
  obtain ⟨l, hll⟩ : ∃ l, L.length = l := ⟨_, rfl⟩
  have HLL := Lib.hid hll
  obtain ⟨bl, hbl⟩ : ∃ bl, b.length = bl := ⟨_, rfl⟩
  have HBL := Lib.hid hbl
  obtain ⟨hsz1, hsz2⟩ := hsz
  have hr2 : L.length = 0 ∨ size < most := hroll.elim (fun e => .inl (by rw [e]; rfl)) .inr
  rw [hll] at hr2
  have hmk := fun w' => run_mk8 w' bl (by omega)
  rw [hbl] at HFR HU ⊢
  rw [hll] at HFR HSL
  have HBB := Lib.hid (show b.length ≤ big by unfold big; omega)
  have HLB := Lib.hid hl
  have HK := Lib.hid (fun (w5 : World) (A5 : Option Addr) (c5 : Nat) (vf : Value) (hS : St W w5 (aRow 67 4 (.slice (some ⟨s, 0, none⟩) 1 c) 1 [.int .i64 1, .int .i64 first, .slice AL l cL, .int .i64 size] :: aPl (.slice A5 (l + 1) c5) (L ++ [b]) :: aDisk dp d' :: aBlk p 54 #[.pointer (some ⟨dp, 0, none⟩), .string (bstr name), .int .i64 most, .slice (some ⟨s, 0, none⟩) 1 c, .int .i64 sure] :: aBy vf (frameF b) :: X)) =>
    show St W ((w5.setCell ⟨s, 2, none⟩ (.slice A5 (l + 1) c5)).setCell ⟨s, 3, none⟩ (.int .i64 (size + fl))) (lgL p dp { name := name, most := most, sure := sure, n := 1, first := first, size := size + ((frameF b).length : Int), L := L ++ [b] } s c (.slice A5 (l + 1) c5) ++ (aDisk dp d' :: X)) from by
    have h1 := hS.rowSet (j := 2) (by omega) (.slice A5 (l + 1) c5)
    have h2 := h1.rowSet (j := 3) (by omega) (.int .i64 (size + fl))
    simp only [List.set_cons_succ, List.set_cons_zero] at h2
    rw [← HFLE.out] at h2 ⊢
    exact h2.rot4.rot5.drop)
  have HCL := Lib.hid (fun (w' : World) (Y : List Asn) (hS : St W w' (lgL p dp { name := name, most := most, sure := sure, n := 1, first := first, size := size, L := L } s c (.slice AL l cL) ++ Y)) => lgL.cells hS)
  have HEN := Lib.hid (fun (w' : World) (Y : List Asn) (hS : St W w' (lgL p dp { name := name, most := most, sure := sure, n := 1, first := first, size := size, L := L } s c (.slice AL l cL) ++ Y)) => Lend_o hS)
  clear h hu hu0 hb hn hap hl hfn hE HE2 hfl hll hbl hroll
  go_enter Tryz.func7, Tryz.ntmps7
  go_wp2_with (first
    | (go_at_call 27; (with_reducible refine HN.out.mono ?_); rintro e w1 ⟨rfl, rfl⟩)
    | (go_at_call 28; (with_reducible refine HFR.out.mono ?_); rintro e w2 ⟨vf, rfl, hS⟩; obtain ⟨Af, cf, hv⟩ := hS.bySlice; rw [HFLE.out] at hv; subst hv; have H2 := Lib.hid (show St W w2 (lgL p dp { name := name, most := most, sure := sure, n := 1, first := first, size := size, L := L } s c (.slice AL l cL) ++ (aBy (.slice Af fl cf) (frameF b) :: aDisk dp d :: X)) from St.rot4 (St.rot4 (St.rot4 hS))); clear hS)
    | (go_at_call 29; (with_reducible refine (HEN.out _ _ H2.out).mono ?_); rintro e w3 ⟨rfl, hb⟩; have H3 := Lib.hid (H2.out.later hb); obtain ⟨m0, m1, m2, m3, m4, n0, n1, n2, n3⟩ := HCL.out _ _ H3.out; clear hb))
  have hcase : (¬ 0 < l) ∨ (0 < l ∧ ¬ most ≤ size) := by omega
  rcases hcase with p1 | ⟨p1, p2⟩
  all_goals
    go_quiet (fail)
    go_wp2_with (first
      | (go_at_call 29; (with_reducible refine (HEN.out _ _ (H3.out.drewN _)).mono ?_); rintro e w4 ⟨rfl, hb⟩; have H4 := Lib.hid (((H3.out.drewN _).later hb).later (Below.refl _ _).drew); have hS := (H3.out.drewN _).later hb; clear m0 m1 m2 m3 m4 n0 n1 n2 n3; obtain ⟨m0, m1, m2, m3, m4, n0, n1, n2, n3⟩ := HCL.out _ _ hS; clear hb hS))
    go_region_held3 (fun w' => w'.cell? ⟨p, 0, none⟩ = some (.pointer (some ⟨dp, 0, none⟩)) ∧ w'.cell? ⟨p, 1, none⟩ = some (.string (bstr name)) ∧ w'.cell? ⟨s, 0, none⟩ = some (.int .i64 1)) (first | assumption | (refine ⟨?_, ?_, ?_⟩ <;> assumption)) (first
      | (go_at_call 31; (with_reducible refine (HFI.out _).mono ?_); rintro e w5 ⟨rfl, rfl⟩)
      | (go_at_call 30; (with_reducible refine (HAP.out _ _ _ (St.rot5 H4.out) ((St.rot4 H4.out).byBs (by have := HFL.out; unfold big; omega))).mono ?_); rintro e w6 ⟨rfl, hS⟩; have H6 := Lib.hid hS; clear m0 m1 m2 m3 m4 n0 n1 n2 n3; obtain ⟨m0, m1, m2, m3, m4, n0, n1, n2, n3⟩ := HCL.out _ _ (St.drop hS); clear hS))
    all_goals
      go_wp2_with (first
        | (at_builtin; refine wpList_append_run rfl (.tmp 77) (.tmp 79) 65 rfl rfl rfl hrun ?_)
        | (go_at_call 32; (with_reducible refine (HSL.out _ _ _).mono ?_); rintro e w9 ⟨rfl, hb⟩; have H10 := Lib.hid (H9.out.later hb); clear hb)
        | ((with_reducible refine wpList_copy_B rfl (.tmp 70) (.tmp 71) rfl rfl rfl HBL.out H6.out (HU.out _ [_, _, _, _, _] H6.out) ?_); intro w7 hS; obtain ⟨A5, c5, w8, hrun, hS8⟩ := St.plAppend (ty := 65) (St.rot5 hS) HBB.out HLB.out; rw [HLL.out] at hrun hS8; have H8 := Lib.hid (show St W w8 (aRow 67 4 (.slice (some ⟨s, 0, none⟩) 1 c) 1 [.int .i64 1, .int .i64 first, .slice AL l cL, .int .i64 size] :: aPl (.slice A5 (l + 1) c5) (L ++ [b]) :: aDisk dp d' :: aBlk p 54 #[.pointer (some ⟨dp, 0, none⟩), .string (bstr name), .int .i64 most, .slice (some ⟨s, 0, none⟩) 1 c, .int .i64 sure] :: aBy (.slice Af fl cf) (frameF b) :: X) from St.rot4 hS8); have a82 := H8.out.rowN (j := 2) rfl; have a83 := H8.out.rowN (j := 3) rfl; have a80 := H8.out.rowN (j := 0) rfl; have a81 := H8.out.rowN (j := 1) rfl; have f82 := H8.out.rowFree 2; have f83 := H8.out.rowFree 3; have H9 := Lib.hid (HK.out _ _ _ _ H8.out); have l7 := hS.rot5.rot5.rowN (j := 2) rfl; clear hS hS8))
      go_ret2
      exact ⟨rfl, aLg.shut HEE.out H10.out⟩
end
end Go.Proofs.YtoikjgcggmemaaaGreatDoor

/- The first segment read behind none: reads. -/
namespace Go.Proofs.YtoikjgcggmemaaaGreatDoor
open Go.RowKit Go.Deep Go.Maps
set_option linter.unusedVariables false

/-- a disk with a log's first file alone -/
def dF (n : List UInt8) (b : List UInt8) (s : Nat) (r : Int) : Dk := ⟨[⟨file1 n, b, s⟩], r, false⟩
theorem mayD (n b : List UInt8) (s : Nat) (r : Int) : mayF (dF n b s r) (file1 n) = (some 0, 0) := by
  unfold mayF dF
  simp [ixF]
theorem getD (n b : List UInt8) (s : Nat) (r : Int) : getF (dF n b s r) (file1 n) = (b, 0) := by
  unfold getF
  rw [mayD n b s r]
  rfl
theorem syncD (n b : List UInt8) (s : Nat) (r : Int) : syncF (dF n b s r) (file1 n) = (0, dF n b b.length r) := by
  unfold syncF
  rw [turn_some (mayD n b s r) (f := ⟨file1 n, b, s⟩) rfl]
  rfl
theorem truncD (n b : List UInt8) (s : Nat) (r : Int) (k : Nat) (hk : k ≤ b.length) : truncF (dF n b s r) (file1 n) (k : Int) = (0, dF n (b.take k) (min s k) r) := by
  unfold truncF
  rw [turn_some (mayD n b s r) (f := ⟨file1 n, b, s⟩) rfl]
  rw [if_neg (by simp; omega)]
  rfl
theorem headOf_le {b : List UInt8} {f k : Nat} (hh : headOf b = some (f, k)) : k ≤ b.length ∧ 1 ≤ f ∧ f ≤ 9007199254740992 := by
  unfold headOf at hh
  split at hh
  · cases hh
  · rename_i x hx
    split at hh
    · rename_i h1
      simp only [Option.some.injEq, Prod.mk.injEq] at hh
      have := numS_le x.1 0 9007199254740992
      rw [← hh.2, ← hh.1]
      exact ⟨(unframe_le hx).1, h1.2, this⟩
    · cases hh
theorem sizF_le {b : List UInt8} {k : Nat} (hk : k ≤ b.length) : 0 ≤ sizF k (framesF (b.drop k)) ∧ sizF k (framesF (b.drop k)) ≤ (b.length : Int) ∧ (framesF (b.drop k)).length ≤ b.length := by
  have := frames_sum _ (b.drop k) (Nat.le_refl _)
  rw [List.length_drop] at this
  unfold sizF
  omega
/-- the log that a file says -/
def lgOf (n : List UInt8) (most sure : Int) (b : List UInt8) (f k : Nat) : Lg := ⟨n, most, sure, 1, f, sizF k (framesF (b.drop k)), (framesF (b.drop k)).map (·.1)⟩
/-- the file mended -/
def mendF (b : List UInt8) (k : Nat) : List UInt8 := b.take (sizF k (framesF (b.drop k))).toNat
theorem mendF_len {b : List UInt8} {k : Nat} (hk : k ≤ b.length) : ((mendF b k).length : Int) = sizF k (framesF (b.drop k)) := by
  have := sizF_le hk
  unfold mendF
  rw [List.length_take]
  omega
theorem lgOfE {n : List UInt8} {most sure : Int} {b : List UInt8} {f k : Nat} (hh : headOf b = some (f, k)) (hb : b.length ≤ 4194304) : LgE (lgOf n most sure b f k) := by
  obtain ⟨h1, h2, h3⟩ := headOf_le hh
  have := sizF_le h1
  refine ⟨by simp [lgOf]; omega, by simp [lgOf], by simp [lgOf]; omega⟩
section
variable {W w : World} {p dp : Nat} {X : List Asn} {n b : List UInt8} {most r : Int} {s f k : Nat}
theorem lg3 {v x : Value} (h : St W w (aBlk p 54 #[.pointer (some ⟨dp, 0, none⟩), .string (bstr n), .int .i64 most, v, x] :: X)) : w.cell? ⟨p, 0, none⟩ = some (.pointer (some ⟨dp, 0, none⟩)) ∧ w.cell? ⟨p, 1, none⟩ = some (.string (bstr n)) ∧ w.cell? ⟨p, 3, none⟩ = some v := by
  have hb := aBlk.get h
  have c0 := hb.cell 0
  have c1 := hb.cell 1
  have c3 := hb.cell 3
  simp at c1 c3
  simp only [List.getElem?_toArray, List.getElem?_cons_zero] at c0
  exact ⟨c0, c1, c3⟩
set_option maxRecDepth 20000 in
set_option maxHeartbeats 8000000 in
theorem reads_c (h : St W w (aBlk p 54 #[.pointer (some ⟨dp, 0, none⟩), .string (bstr n), .int .i64 most, .slice none 0 0, .int .i64 0] :: aDisk dp (dF n b s r) :: X)) (hn : n.length ≤ 4194304) (hb : b.length ≤ 4194304) (hh : headOf b = some (f, k)) :
    Calls Tryz.prog 24 #[.pointer (some ⟨p, 0, none⟩), .int .i64 1, .bool true] w fun e w' => e = .returned (.int .i64 0) ∧ St W w' (aLg p dp (lgOf n most 0 b f k) :: aDisk dp (dF n (mendF b k) (mendF b k).length r) :: X) := by
  have hfn : (file1 n).length ≤ maxLen := by simp [file1]; unfold maxLen; omega
  have HFI := Lib.hid (fun w' => file_c w' (n := n) (by omega))
  have HGE := Lib.hid (fun w' (hS : St W w' (aBlk p 54 #[.pointer (some ⟨dp, 0, none⟩), .string (bstr n), .int .i64 most, .slice none 0 0, .int .i64 0] :: aDisk dp (dF n b s r) :: X)) => show Calls Tryz.prog 46 #[.pointer (some ⟨dp, 0, none⟩), .string (bstr (file1 n))] w' fun e w' => ∃ v, e = .returned (.tuple #[v, .int .i64 0]) ∧ St W w' (aBy v b :: aDisk dp (dF n b s r) :: aBlk p 54 #[.pointer (some ⟨dp, 0, none⟩), .string (bstr n), .int .i64 most, .slice none 0 0, .int .i64 0] :: X) from by
    have := get_c hS.swap hfn
    rw [getD] at this
    exact this)
  have H0 := Lib.hid h
  have HFN := Lib.hid hfn
  obtain ⟨c0, c1, c3⟩ := lg3 h
  obtain ⟨hk, hf1, hf2⟩ := headOf_le hh
  obtain ⟨z1, z2, z3⟩ := sizF_le hk
  have HBL := Lib.hid hb
  have HRD := Lib.hid (fun w' v (hv : Bs w' v b) => read_s hv (by have := HBL.out; omega) hh 1)
  have HML := Lib.hid (mendF_len hk)
  have hLL : ((framesF (b.drop k)).map (·.1)).length ≤ 4194304 := by rw [List.length_map]; omega
  have HLL := Lib.hid hLL
  obtain ⟨l, hln⟩ : ∃ l, ((framesF (b.drop k)).map (·.1)).length = l := ⟨_, rfl⟩
  have HLn := Lib.hid hln
  obtain ⟨bl, hbl⟩ : ∃ bl, b.length = bl := ⟨_, rfl⟩
  have HBL2 := Lib.hid hbl
  obtain ⟨sz, hsz⟩ : ∃ sz, sizF k (framesF (b.drop k)) = sz := ⟨_, rfl⟩
  have HSZ := Lib.hid hsz
  rw [hsz] at z1 z2 HRD HML
  rw [hbl] at z2 hb hk
  have HLG := Lib.hid (show lgOf n most 0 b f k = ⟨n, most, 0, 1, f, sz, (framesF (b.drop k)).map (·.1)⟩ by unfold lgOf; rw [hsz])
  have HGE2 := Lib.hid (lgOfE (n := n) (most := most) (sure := 0) hh HBL.out)
  have hszk : sz = ((sz.toNat : Nat) : Int) := by omega
  have HTR := Lib.hid (fun w' Y (hS : St W w' (aDisk dp (dF n b s r) :: Y)) => show Calls Tryz.prog 48 #[.pointer (some ⟨dp, 0, none⟩), .string (bstr (file1 n)), .int .i64 sz] w' fun e w' => e = .returned (.int .i64 0) ∧ St W w' (aDisk dp (dF n (mendF b k) (min s sz.toNat) r) :: Y) from by
    have := trunc_c (k := sz) hS hfn (by omega)
    have e1 := truncD n b s r sz.toNat (by omega)
    rw [← hszk] at e1
    rw [e1] at this
    unfold mendF
    rw [hsz]
    exact this)
  have HSY := Lib.hid (fun w' s2 Y (hS : St W w' (aDisk dp (dF n (mendF b k) s2 r) :: Y)) => show Calls Tryz.prog 33 #[.pointer (some ⟨dp, 0, none⟩), .string (bstr (file1 n))] w' fun e w' => e = .returned (.int .i64 0) ∧ St W w' (aDisk dp (dF n (mendF b k) (mendF b k).length r) :: Y) from by
    have := sync_c hS hfn
    rw [syncD] at this
    exact this)
  have HME := Lib.hid (show ¬ sz < (bl : Int) → mendF b k = b from fun h => by unfold mendF; rw [hsz]; exact List.take_of_length_le (by omega))
  have HK := Lib.hid (fun (w' : World) (g c q : Nat) (AL : Option Addr) (cL : Nat) (s2 : Nat) (vb : Value) (hS : St W w' (aRow 67 4 (.slice (some ⟨g, 0, none⟩) 1 c) 1 [.int .i64 1, .int .i64 (f : Int), .slice AL l cL, .int .i64 sz] :: aDisk dp (dF n (mendF b k) s2 r) :: aBlk p 54 #[.pointer (some ⟨dp, 0, none⟩), .string (bstr n), .int .i64 most, .slice none 0 0, .int .i64 0] :: aBlk q 67 #[.int .i64 1, .int .i64 (f : Int), .slice AL l cL, .int .i64 sz] :: aPl (.slice AL l cL) ((framesF (b.drop k)).map (·.1)) :: aBy vb b :: X)) =>
    show St W (w'.setCell ⟨p, 3, none⟩ (.slice (some ⟨g, 0, none⟩) 1 c)) (aDisk dp (dF n (mendF b k) s2 r) :: (lgL p dp ⟨n, most, 0, 1, f, sz, (framesF (b.drop k)).map (·.1)⟩ g c (.slice AL l cL) ++ X)) from by
    have h1 := aBlk.set hS.rot3 3 (.slice (some ⟨g, 0, none⟩) 1 c)
    have h2 := h1.rot6.drop.rot4.drop
    exact h2.rot3)
  clear hszk
  clear h hfn hLL hln hbl hsz z3 hh
  go_enter Tryz.func24, Tryz.ntmps24
  go_wp2_with fail
  go_region_held3 (fun w' => w'.cell? ⟨p, 0, none⟩ = some (.pointer (some ⟨dp, 0, none⟩)) ∧ w'.cell? ⟨p, 1, none⟩ = some (.string (bstr n))) (first | assumption | (refine ⟨?_, ?_⟩ <;> assumption)) (first
      | (go_at_call 31; (with_reducible refine (HFI.out _).mono ?_); rintro e w1 ⟨rfl, rfl⟩)
      | (go_at_call 46; (with_reducible refine (HGE.out _ (H0.out.later (Below.refl _ _).drew)).mono ?_); rintro e w2 ⟨v, rfl, hS⟩; obtain ⟨Av, cv, hv⟩ := hS.bySlice; rw [HBL2.out] at hv; subst hv; have H2 := Lib.hid hS; obtain ⟨k0, k1, k3⟩ := lg3 hS.rot3; clear hS c0 c1 c3))
  go_wp2_with (first
      | (go_at_call 47; (with_reducible refine (HRD.out _ _ ((show St W w2 (aBy _ b :: _) from H2.out).byBs (by have := HBL.out; unfold big; omega))).mono ?_); rintro e w3 ⟨vL, rfl, hS⟩; have h3 := H2.out.onto hS; obtain ⟨AL, cL, hv⟩ := aPl.slice h3; rw [HLn.out] at hv; subst hv; have h4 := aBlk.new h3.rot4 67 #[.int .i64 1, .int .i64 (f : Int), .slice AL l cL, .int .i64 sz]; have H4 := Lib.hid h4.swap; clear hS k0 k1 k3 h3; obtain ⟨k0, k1, k3⟩ := lg3 H4.out; have q0 := (aBlk.get h4).cell 0; have q1 := (aBlk.get h4).cell 1; have q2 := (aBlk.get h4).cell 2; have q3 := (aBlk.get h4).cell 3; simp only [List.getElem?_toArray, List.getElem?_cons_zero] at q0; simp only [List.getElem?_toArray, List.getElem?_cons_zero, List.getElem?_cons_succ] at q1 q2 q3; clear h4))
  · go_region_held3 (fun w' => w'.cell? ⟨p, 0, none⟩ = some (.pointer (some ⟨dp, 0, none⟩)) ∧ w'.cell? ⟨p, 1, none⟩ = some (.string (bstr n)) ∧ w'.cell? ⟨w3.heap.size, 3, none⟩ = some (.int .i64 sz)) (first | assumption | (refine ⟨?_, ?_, ?_⟩ <;> assumption)) (first
      | (go_at_call 31; (with_reducible refine (HFI.out _).mono ?_); rintro e w4 ⟨rfl, rfl⟩)
      | (go_at_call 48; (with_reducible refine (HTR.out _ _ ((H4.out.later (Below.refl _ _).drew).rot5)).mono ?_); rintro e w5 ⟨rfl, hS⟩; have H5 := Lib.hid hS; clear k0 k1 k3 q0 q1 q2 q3; obtain ⟨k0, k1, k3⟩ := lg3 hS.swap; have q0 := (aBlk.get hS.rot3).cell 0; have q1 := (aBlk.get hS.rot3).cell 1; have q2 := (aBlk.get hS.rot3).cell 2; have q3 := (aBlk.get hS.rot3).cell 3; simp only [List.getElem?_toArray, List.getElem?_cons_zero] at q0; simp only [List.getElem?_toArray, List.getElem?_cons_zero, List.getElem?_cons_succ] at q1 q2 q3; clear hS))
    go_wp2_with fail
    have o4 : ∀ x ∈ [Value.int .i64 1, .int .i64 (f : Int), .slice AL l cL, .int .i64 sz], x.oneCell' = true := by simp [Value.oneCell']
    have ka3 := (lg3 (H5.out.later (B.alloc' _ (.cells #[.int .i64 1, .int .i64 (f : Int), .slice AL l cL, .int .i64 sz] 67))).swap).2.2
    go_region_law (first
      | (refine step_append_St rfl (.tmp 175) (.tmp 177) 52 rfl Tryz.underlying52 infoSeg rfl (by decide) rfl rfl (((H5.out.later (Below.refl _ _).drew).later (B.alloc' _ _)).rowNil 67 4) (Rd.four _ _ _ _ _ _) o4 (by unfold maxLen; omega) (by omega) ?_; intro A7 c7 w7 hS; simp only [Nat.zero_add, List.nil_append] at hS; simp only [Nat.zero_add]; obtain ⟨g, rfl⟩ := hS.rowNSome (by omega); have H8 := Lib.hid (HK.out _ _ _ _ _ _ _ _ hS); have k73 := (lg3 hS.rot3).2.2; have f73 := (aBlk.get hS.rot3).frozen 3; clear hS))
    all_goals
      clear k0 k1 k3 ka3 k73 f73
      have h9 := H8.out.rot4.rot4.rot4
      obtain ⟨k0, k1, _⟩ := lgL.cells h9
      clear h9
      go_wp2_with fail
      go_region_held3 (fun w' => w'.cell? ⟨p, 0, none⟩ = some (.pointer (some ⟨dp, 0, none⟩)) ∧ w'.cell? ⟨p, 1, none⟩ = some (.string (bstr n))) (first | assumption | (refine ⟨?_, ?_⟩ <;> assumption)) (first
        | (go_at_call 31; (with_reducible refine (HFI.out _).mono ?_); rintro e w8 ⟨rfl, rfl⟩)
        | (go_at_call 33; (with_reducible refine (HSY.out _ _ _ (H8.out.later (Below.refl _ _).drew)).mono ?_); rintro e w9 ⟨rfl, hS⟩; have H9 := Lib.hid hS; have h9 := hS.rot4.rot4.rot4; clear k0 k1; obtain ⟨k0, k1, _⟩ := lgL.cells h9; clear hS h9))
      all_goals
        go_wp2_with fail
        go_ret
        refine ⟨rfl, ?_⟩
        rw [HLG.out]
        exact aLg.shut (by rw [← HLG.out]; exact HGE2.out) H9.out.rot4.rot4.rot4
  · have H5 := Lib.hid (show St W _ (aDisk dp (dF n (mendF b k) s r) :: _) from by rw [HME.out (by assumption)]; exact H4.out.rot5)
    obtain ⟨w5, hw5⟩ : ∃ w5, w3.alloc (.cells #[.int .i64 1, .int .i64 (f : Int), .slice AL l cL, .int .i64 sz] 67) = w5 := ⟨_, rfl⟩
    rw [hw5] at H5 k0 k1 k3 q0 q1 q2 q3 ⊢
    clear hw5 H4
    have o4 : ∀ x ∈ [Value.int .i64 1, .int .i64 (f : Int), .slice AL l cL, .int .i64 sz], x.oneCell' = true := by simp [Value.oneCell']
    have ka3 := (lg3 (H5.out.later (B.alloc' _ (.cells #[.int .i64 1, .int .i64 (f : Int), .slice AL l cL, .int .i64 sz] 67))).swap).2.2
    go_region_law (first
      | (refine step_append_St rfl (.tmp 175) (.tmp 177) 52 rfl Tryz.underlying52 infoSeg rfl (by decide) rfl rfl (((H5.out.later (Below.refl _ _).drew).later (B.alloc' _ _)).rowNil 67 4) (Rd.four _ _ _ _ _ _) o4 (by unfold maxLen; omega) (by omega) ?_; intro A7 c7 w7 hS; simp only [Nat.zero_add, List.nil_append] at hS; simp only [Nat.zero_add]; obtain ⟨g, rfl⟩ := hS.rowNSome (by omega); have H8 := Lib.hid (HK.out _ _ _ _ _ _ _ _ hS); have k73 := (lg3 hS.rot3).2.2; have f73 := (aBlk.get hS.rot3).frozen 3; clear hS))
    all_goals
      clear k0 k1 k3 ka3 k73 f73
      have h9 := H8.out.rot4.rot4.rot4
      obtain ⟨k0, k1, _⟩ := lgL.cells h9
      clear h9
      go_wp2_with fail
      go_region_held3 (fun w' => w'.cell? ⟨p, 0, none⟩ = some (.pointer (some ⟨dp, 0, none⟩)) ∧ w'.cell? ⟨p, 1, none⟩ = some (.string (bstr n))) (first | assumption | (refine ⟨?_, ?_⟩ <;> assumption)) (first
        | (go_at_call 31; (with_reducible refine (HFI.out _).mono ?_); rintro e w8 ⟨rfl, rfl⟩)
        | (go_at_call 33; (with_reducible refine (HSY.out _ _ _ (H8.out.later (Below.refl _ _).drew)).mono ?_); rintro e w9 ⟨rfl, hS⟩; have H9 := Lib.hid hS; have h9 := hS.rot4.rot4.rot4; clear k0 k1; obtain ⟨k0, k1, _⟩ := lgL.cells h9; clear hS h9))
      all_goals
        go_wp2_with fail
        go_ret
        refine ⟨rfl, ?_⟩
        rw [HLG.out]
        exact aLg.shut (by rw [← HLG.out]; exact HGE2.out) H9.out.rot4.rot4.rot4
end
end Go.Proofs.YtoikjgcggmemaaaGreatDoor

/- Open on a disk with a log's first file alone. -/
namespace Go.Proofs.YtoikjgcggmemaaaGreatDoor
open Go.RowKit Go.Deep Go.Maps
set_option linter.unusedVariables false

/-- the log that Open makes of a file -/
def lgOpen (n : List UInt8) (most : Int) (b : List UInt8) (f k : Nat) : Lg := { lgOf n most 0 b f k with sure := lastF (lgOf n most 0 b f k) }
section
variable {W w : World} {dp : Nat} {X : List Asn} {n b : List UInt8} {most r : Int} {s f k : Nat}
set_option maxRecDepth 20000 in
set_option maxHeartbeats 8000000 in
theorem open1_c (h : St W w (aDisk dp (dF n b s r) :: X)) (hm : mayN n most = true) (hn : n.length ≤ 4194304) (hb : b.length ≤ 4194304) (hh : headOf b = some (f, k)) :
    Calls Tryz.prog 5 #[.pointer (some ⟨dp, 0, none⟩), .string (bstr n), .int .i64 most] w fun e w' => ∃ p, e = .returned (.tuple #[.pointer (some ⟨p, 0, none⟩), .int .i64 0]) ∧ St W w' (aLg p dp (lgOpen n most b f k) :: aDisk dp (dF n (mendF b k) (mendF b k).length r) :: X) := by
  have HC := Lib.hid (clone_c h (fun x hx => by
    simp only [dF, List.mem_cons, List.not_mem_nil, or_false] at hx
    subst hx
    simp [file1]; unfold maxLen; omega))
  have HM := Lib.hid (fun w' => may_c w' (n := n) (m := most))
  have HNL := Lib.hid hn
  have HRS := Lib.hid (fun w' p Y (hS : St W w' (aBlk p 54 #[.pointer (some ⟨dp, 0, none⟩), .string (bstr n), .int .i64 most, .slice none 0 0, .int .i64 0] :: aDisk dp (dF n b s r) :: Y)) => reads_c hS hn hb hh)
  have HGE := Lib.hid (lgOfE (n := n) (most := most) (sure := 0) hh hb)
  have HGE2 := Lib.hid (show LgE (lgOpen n most b f k) from lgOfE (n := n) (most := most) (sure := 0) hh hb)
  obtain ⟨z, hz⟩ : ∃ z, lastF (lgOf n most 0 b f k) = z := ⟨_, rfl⟩
  have HZ := Lib.hid hz
  have HLO := Lib.hid (show lgOpen n most b f k = { lgOf n most 0 b f k with sure := z } by unfold lgOpen; rw [hz])
  rw [hm] at HM
  have LH := Lib.hid (fun w' p Y (hS : St W w' (aLg p dp (lgOf n most 0 b f k) :: Y)) => show Calls Tryz.prog 13 #[.pointer (some ⟨p, 0, none⟩)] w' fun e w'' => e = .returned (.int .i64 z) ∧ (∃ s c vL, St W w'' (lgL p dp (lgOf n most 0 b f k) s c vL ++ Y)) ∧ w''.cell? ⟨p, 4, none⟩ = some (.int .i64 0) ∧ w''.frozen? ⟨p, 4, none⟩ = false from by
    obtain ⟨s, c, vL, hE, h1⟩ := aLg.open_ hS
    refine (Llast_o h1 hE).mono ?_
    rintro e w'' ⟨rfl, hb⟩
    rw [HZ.out]
    have h2 := h1.later hb
    exact ⟨rfl, ⟨s, c, vL, h2⟩, (lgL.cells h2).2.2.2.2.1, (aBlk.get h2).frozen 4⟩)
  have HK := Lib.hid (fun w' p Y (hS : ∃ s c vL, St W w' (lgL p dp (lgOf n most 0 b f k) s c vL ++ Y)) => show St W (w'.setCell ⟨p, 4, none⟩ (.int .i64 z)) (aLg p dp (lgOpen n most b f k) :: Y) from by
    obtain ⟨s, c, vL, h1⟩ := hS
    have h2 := aBlk.set h1 4 (.int .i64 z)
    rw [HLO.out]
    exact aLg.shut (by rw [← HLO.out]; exact HGE2.out) h2)
  clear h hm hn hb hh hz
  go_enter Tryz.func5, Tryz.ntmps5
  go_wp2_with (first
    | (go_at_call 19; (with_reducible refine HC.out.mono ?_); rintro e w1 ⟨c, rfl, hS⟩; have H1 := Lib.hid hS.drop; clear hS)
    | (go_at_call 20; (with_reducible refine (offD_c H1.out).mono ?_); rintro e w2 ⟨rfl, rfl⟩; rw [show (dF n b s r).off = false from rfl])
    | (go_at_call 21; (with_reducible refine (HM.out _).mono ?_); rintro e w3 ⟨rfl, hb⟩; have H3 := Lib.hid (aBlk.new (H1.out.later hb) 54 #[.pointer (some ⟨dp, 0, none⟩), .string (bstr n), .int .i64 most, .slice none 0 0, .int .i64 0]); clear hb)
    | (go_at_call 22; (with_reducible refine (numbers1 H3.out.swap HNL.out (b := b) (s := s) rfl).mono ?_); rintro e w4 ⟨g, c, rfl, hS⟩; have H4 := Lib.hid hS; have m0 := hS.rowN (j := 0) rfl; clear hS))
  go_loopw [51] (fun i wr => wr = w4 ∧ ∃ q : Nat, q ≤ 1 ∧ i = .int .i64 q) (fun i _ => 1 - (intOf i).toNat)
  case atStart => exact ⟨rfl, 0, by omega, rfl⟩
  case round =>
    obtain ⟨rfl, q, hq, rfl⟩ := hrel
    have hq2 : q = 0 ∨ q = 1 := by omega
    rcases hq2 with rfl | rfl
    · go_wp2_with fail
      go_roundw
      case rel => exact ⟨trivial, 1, by omega, by go_num⟩
      case measure => simp [intOf]
    · go_wp2_with fail
      go_loopw [66] (fun i wr2 => ∃ q : Nat, q ≤ 1 ∧ i = .int .i64 q ∧ Hid (q = 0 → wr2 = wr) ∧ Hid (q = 1 → St W wr2 (aLg w3.heap.size dp (lgOf n most 0 b f k) :: aDisk dp (dF n (mendF b k) (mendF b k).length r) :: aRow 3 1 (.slice (some ⟨g, 0, none⟩) 1 c) 1 [.int .i64 1] :: X))) (fun i _ => 1 - (intOf i).toNat)
      case atStart => exact ⟨0, by omega, rfl, fun _ => rfl, fun h => (by cases h)⟩
      case round =>
        obtain ⟨q, hq, rfl, HA, HB⟩ := hrel
        have hq2 : q = 0 ∨ q = 1 := by omega
        rcases hq2 with rfl | rfl
        · obtain rfl := HA.out rfl
          clear HA HB
          go_wp2_with (first
            | (go_at_call 24; (with_reducible refine (HRS.out _ _ _ H4.out.rot3.swap2).mono ?_); rintro e w5 ⟨rfl, hS⟩; have H5 := Lib.hid hS; clear hS))
          go_roundw
          case rel => exact ⟨_, _, _, _, _, _, _, _, _, _, _, _, _, _, _, _, _, _, _, _, _, _, ⟨1, by omega, by go_num, fun h => (by cases h), fun _ => H5.out⟩, rfl⟩
          case measure => simp [intOf]
        · have H5 := Lib.hid (HB.out rfl)
          clear HA HB m0
          go_wp2_with (first
            | (go_at_call 13; (with_reducible refine (LH.out _ _ _ H5.out).mono ?_); rintro e w6 ⟨rfl, hS, hc, hf⟩; have H6 := Lib.hid hS; clear hS))
          go_ret2
          exact ⟨_, rfl, (HK.out _ _ _ H6.out).rot3.drop⟩
end
end Go.Proofs.YtoikjgcggmemaaaGreatDoor

/- Get on a log with one segment. -/
namespace Go.Proofs.YtoikjgcggmemaaaGreatDoor
open Go.RowKit Go.Deep Go.Maps
set_option linter.unusedVariables false

section
variable {W w : World} {p dp : Nat} {X : List Asn} {g : Lg} {d : Dk} {b : List UInt8} {i : Nat}
theorem lt_of {α : Type} {L : List α} {i : Nat} {x : α} (h : L[i]? = some x) : i < L.length := by
  rcases Nat.lt_or_ge i L.length with h' | h'
  · exact h'
  · rw [List.getElem?_eq_none h'] at h; cases h
theorem aPl.at {v : Value} {M : List (List UInt8)} (h : St W w (aPl v M :: X)) {b : List UInt8} (hi : M[i]? = some b) : ∃ gl c u, v = .slice (some ⟨gl, 0, none⟩) M.length c ∧ w.cell? ⟨gl, i, none⟩ = some u ∧ Bs w u b := by
  obtain ⟨own, ⟨vs, ⟨h1, h2⟩, h3⟩, ho⟩ := h.get
  have hil : i < M.length := lt_of hi
  have hvl : vs.length = M.length := h3.1
  have hv : vs[i]? = some vs[i] := List.getElem?_eq_getElem (by omega)
  obtain ⟨r1, r2, r3⟩ := h3.2 i _ b hv hi
  obtain ⟨hl, A, cap, hs, _, _, hx⟩ := Rd.of_own h1
  rcases h1.2 with ⟨e1, e2⟩ | ⟨g', cap', cur, e1, _⟩
  · omega
  · refine ⟨g', cap', vs[i], e1, ?_, Bs.of_own r1 r2⟩
    rw [hs] at e1
    injection e1 with e3 e4 e5
    have := (hx _ e3).2 i _ hv
    rw [addr_at, Nat.zero_add] at this
    exact this
set_option maxRecDepth 20000 in
set_option maxHeartbeats 4000000 in
theorem Lget_c (h : St W w (aLg p dp g :: X)) (hi : g.L[i]? = some b) : Calls Tryz.prog 25 #[.pointer (some ⟨p, 0, none⟩), .int .i64 (g.first + (i : Int))] w fun e w' => ∃ v, e = .returned (.tuple #[v, .int .i64 0]) ∧ St W w' (aBy v b :: aLg p dp g :: X) := by
  have H0 := Lib.hid h
  obtain ⟨s, c, vL, hE, h⟩ := aLg.open_ h
  have HN := Lib.hid (Lnone_o h)
  obtain ⟨gl, cL, u, rfl, ku, hub⟩ := aPl.at (St.rot3 h) hi
  have HS := Lib.hid (fun w' => segLast_c (g := g) w' hE (A := some ⟨gl, 0, none⟩) (c' := cL))
  obtain ⟨_, _, _, m3, _, n0, n1, n2, n3⟩ := lgL.cells h
  have hil : i < g.L.length := lt_of hi
  have HUB := Lib.hid hub
  obtain ⟨h1, h2, h3⟩ := hE
  have HLF := Lib.hid (show lastF g = g.first + (g.L.length : Int) - 1 from rfl)
  obtain ⟨l, hl⟩ : ∃ l, g.L.length = l := ⟨_, rfl⟩
  rw [hl] at HS HLF hil h1 n2
  generalize g.first = f at *
  generalize g.n = n at *
  generalize g.size = sz at *
  obtain ⟨z, hz⟩ : ∃ z, lastF g = z := ⟨_, rfl⟩
  rw [hz] at HS HLF
  have q1 : f ≤ f + (i : Int) := by omega
  have q2 : f + (i : Int) ≤ z := by have := HLF.out; omega
  have q3 : f + (i : Int) - f = (i : Int) := by omega
  have q4 : (i : Int) < (l : Int) := by omega
  have q5 : wrap64 (i : Int) = (i : Int) := by unfold wrap64; omega
  have hAB : B w (w.alloc (.cells #[.int .i64 n, .int .i64 f, .slice (some ⟨gl, 0, none⟩) l cL, .int .i64 sz] 67)) := B.alloc' _ _
  have HAB := Lib.hid hAB
  have ku1 := hAB.cell ku
  clear h hi hub hl hz hAB
  go_enter Tryz.func25, Tryz.ntmps25
  go_wp2_with (first
    | (go_at_call 27; (with_reducible refine HN.out.mono ?_); rintro e w1 ⟨rfl, rfl⟩))
  go_loopw [15] (fun i wr => i = .int .i64 0 ∧ wr = w) (fun _ _ => 0)
  case atStart => exact ⟨rfl, rfl⟩
  case round =>
    obtain ⟨rfl, rfl⟩ := hrel
    go_wp2_with (first
      | (go_at_call 32; (with_reducible refine (HS.out _).mono ?_); rintro e w2 ⟨rfl, hb⟩; have HB2 := Lib.hid (HAB.out.trans hb); have ku2 := hb.cell ku1; have x1 := hb.cell ((Blk.new wr 67 #[.int .i64 n, .int .i64 f, .slice (some ⟨gl, 0, none⟩) l cL, .int .i64 sz]).cell 1); have x2 := hb.cell ((Blk.new wr 67 #[.int .i64 n, .int .i64 f, .slice (some ⟨gl, 0, none⟩) l cL, .int .i64 sz]).cell 2); simp at x1 x2; clear hb)
      | (go_at_call 40; (with_reducible refine (clone89 (HUB.out.later HB2.out)).mono ?_); rintro e w3 ⟨v3, rfl, r3, hb3⟩; have H3 := Lib.hid ((H0.out.later HB2.out).addRow hb3 r3); clear r3 hb3))
    go_ret2
    exact ⟨_, rfl, H3.out⟩
end
end Go.Proofs.YtoikjgcggmemaaaGreatDoor

/- 'begun': a record is there when the log is opened again. -/
namespace Go.Proofs.YtoikjgcggmemaaaGreatDoor
open Go.RowKit Go.Deep Go.Maps
set_option linter.unusedVariables false

def nLog : List UInt8 := [108, 111, 103]
theorem bLog : bstr nLog = ⟨#[108, 111, 103]⟩ := rfl
theorem mayLog (m : Int) (h : 64 ≤ m ∧ m ≤ 4194304) : mayN nLog m = true := by
  simp [mayN, nLog, goodC]; omega
theorem St.two (w : World) {W : World} {X : List Asn} (h : St W w X) : St W (w.alloc (.cells #[.int .u8 7, .int .u8 8] 5)) (aBy (.slice (some ⟨w.heap.size, 0, none⟩) 2 2) [7, 8] :: X) :=
  h.add (B.alloc' _ _) (A := aBy (.slice (some ⟨w.heap.size, 0, none⟩) 2 2) [7, 8]) (own := fun b => b = w.heap.size)
    ⟨⟨rfl, .inr ⟨_, 2, #[.int .u8 7, .int .u8 8], rfl, Nat.zero_le _, heap_alloc_new w _, Nat.le_refl _, by unfold maxLen; omega, rfl, rfl⟩⟩, fun g hg => by simpa [Value.ownBlock] using hg.symm⟩ (fun b e => by omega)
theorem lit78 (w : World) : Bs (w.alloc (.cells #[.int .u8 7, .int .u8 8] 5)) (.slice (some ⟨w.heap.size, 0, none⟩) 2 2) [7, 8] :=
  Bs.lit w _ [7, 8] 2 rfl rfl (by simp [big])
theorem St.deep {W w : World} {A : Asn} {Y X : List Asn} (h : St W w (Y ++ A :: X)) : St W w (A :: (Y ++ X)) := h.perm List.perm_middle
theorem enc1 : enc 1 = [1] := by rw [enc_lt (by omega)]; rfl
theorem frame78_len : (frameF [7, 8]).length = 7 := by
  unfold frameF bodyF
  rw [show ([7, 8] : List UInt8).length = 2 from rfl, enc_lt (by omega)]
  simp [le4]
theorem headOf_headF (x : List UInt8) : headOf (headF 1 ++ x) = some (1, 6) := by
  unfold headOf headF
  rw [unframe_frame (by rw [enc1]; simp)]
  have h1 := numS_put (d := 1) (most := 9007199254740992) (rest := []) (by omega) (by omega)
  rw [List.append_nil] at h1
  simp only
  rw [h1]
  simp only
  rw [if_pos ⟨rfl, by omega⟩]
  have : (frameF (enc 1)).length = 6 := head1_len
  rw [this]
theorem unframe_nil : unframeF [] = none := by
  simp [unframeF, bytesS, numS, numGo, takeS]
theorem frames_one {b : List UInt8} (h : b.length ≤ 524288) : framesF (frameF b) = [(b, (frameF b).length)] := by
  have h1 := unframe_frame (x := []) h
  rw [List.append_nil] at h1
  rw [framesF_some h1]
  simp only [List.drop_length]
  rw [framesF_none unframe_nil]
def fB : List UInt8 := headF 1 ++ frameF [7, 8]
theorem fB_len : fB.length = 13 := by unfold fB; rw [List.length_append, head1_len, frame78_len]
theorem fB_drop : fB.drop 6 = frameF [7, 8] := by
  unfold fB
  rw [← head1_len, List.drop_left]
theorem fB_frames : framesF (fB.drop 6) = [([7, 8], 7)] := by
  rw [fB_drop, frames_one (by simp), frame78_len]
theorem fB_log : lgOpen nLog 64 fB 1 6 = ⟨nLog, 64, 1, 1, 1, 13, [[7, 8]]⟩ := by
  unfold lgOpen lgOf lastF
  rw [fB_frames]
  rfl
section
variable {W w : World} {p dp : Nat} {g : Lg} {X : List Asn}
theorem Llast_c (h : St W w (aLg p dp g :: X)) : Calls Tryz.prog 13 #[.pointer (some ⟨p, 0, none⟩)] w fun e w' => e = .returned (.int .i64 (lastF g)) ∧ B w w' := by
  obtain ⟨s, c, vL, hE, h1⟩ := aLg.open_ h
  exact Llast_o h1 hE
theorem Lsynced_c (h : St W w (aLg p dp g :: X)) : Calls Tryz.prog 12 #[.pointer (some ⟨p, 0, none⟩)] w fun e w' => e = .returned (.int .i64 g.sure) ∧ w = w' := by
  obtain ⟨s, c, vL, hE, h1⟩ := aLg.open_ h
  exact Lsynced_o h1
end
set_option maxRecDepth 20000 in
set_option maxHeartbeats 8000000 in
theorem begun_c (w : World) : Calls Tryz.prog 6 #[] w fun e w' => e = .returned (.bool true) ∧ B w w' := by
  have HNW := Lib.hid (show Calls Tryz.prog 4 #[.int .i64 1000] w fun e w' => ∃ p, e = .returned (.tuple #[.pointer (some ⟨p, 0, none⟩), .int .i64 0]) ∧ St w w' [aDisk p dZero] from new_yes (k := 1000) (St.nil w) (by omega))
  have HO1 := Lib.hid (fun w' dp X (h : St w w' (aDisk dp dZero :: X)) => show Calls Tryz.prog 5 #[.pointer (some ⟨dp, 0, none⟩), .string ⟨#[108, 111, 103]⟩, .int .i64 64] w' fun e w'' => ∃ p, e = .returned (.tuple #[.pointer (some ⟨p, 0, none⟩), .int .i64 0]) ∧ St w w'' (aLg p dp (lg0 nLog 64 0) :: aDisk dp (dOne nLog (headF 1) 6) :: X) from
    open0_c (n := nLog) h (mayLog 64 (by omega)) (by simp [nLog]))
  have HAP := Lib.hid (fun w' p dp v X (h : St w w' (aLg p dp (lg0 nLog 64 0) :: aDisk dp (dOne nLog (headF 1) 6) :: aBy v [7, 8] :: X)) => show Calls Tryz.prog 7 #[.pointer (some ⟨p, 0, none⟩), v] w' fun e w'' => e = .returned (.tuple #[.int .i64 1, .int .i64 0]) ∧ St w w'' (aLg p dp ((lg0 nLog 64 0).add [7, 8]) :: aDisk dp (dF nLog fB 6 1000) :: aBy v [7, 8] :: X) from
    Lappend_c h (fun w' Y hS => hS.deep.byBs (by simp [big])) (by simp) rfl (.inl rfl) (by simp [lg0, nLog]) (bg1 nLog (headF 1) (frameF [7, 8]) 6 (by rw [head1_len, frame78_len]; omega)) (by simp [lg0]) (by simp [lg0]))
  have HO2 := Lib.hid (fun w' dp X (h : St w w' (aDisk dp (dF nLog fB 6 1000) :: X)) => show Calls Tryz.prog 5 #[.pointer (some ⟨dp, 0, none⟩), .string ⟨#[108, 111, 103]⟩, .int .i64 64] w' fun e w'' => ∃ p, e = .returned (.tuple #[.pointer (some ⟨p, 0, none⟩), .int .i64 0]) ∧ St w w'' (aLg p dp ⟨nLog, 64, 1, 1, 1, 13, [[7, 8]]⟩ :: X) from by
    have := open1_c (n := nLog) (f := 1) (k := 6) h (mayLog 64 (by omega)) (by simp [nLog]) (by rw [fB_len]; omega) (headOf_headF _)
    refine this.mono ?_
    rintro e w'' ⟨p, rfl, hS⟩
    rw [fB_log] at hS
    exact ⟨p, rfl, hS.drop2⟩)
  have HG := Lib.hid (fun w' p dp X (h : St w w' (aLg p dp ⟨nLog, 64, 1, 1, 1, 13, [[7, 8]]⟩ :: X)) => show Calls Tryz.prog 25 #[.pointer (some ⟨p, 0, none⟩), .int .i64 1] w' fun e w'' => ∃ v, e = .returned (.tuple #[v, .int .i64 0]) ∧ St w w'' (aBy v [7, 8] :: aLg p dp ⟨nLog, 64, 1, 1, 1, 13, [[7, 8]]⟩ :: X) from Lget_c (i := 0) h rfl)
  go_enter Tryz.func6, Tryz.ntmps6
  go_wp2_with (first
    | (go_at_call 4; (with_reducible refine HNW.out.mono ?_); rintro e w1 ⟨dp, rfl, hS⟩; have H1 := Lib.hid hS; clear hS HNW)
    | (go_at_call 5; (with_reducible refine (HO1.out _ _ _ H1.out).mono ?_); rintro e w2 ⟨p, rfl, hS⟩; have H2 := Lib.hid (St.two _ hS).rot3.rot3; clear hS HO1 H1)
    | (go_at_call 7; (with_reducible refine (HAP.out _ _ _ _ _ H2.out).mono ?_); rintro e w3 ⟨rfl, hS⟩; have H3 := Lib.hid hS.swap; clear hS HAP H2)
    | (go_at_call 5; (with_reducible refine (HO2.out _ _ _ H3.out).mono ?_); rintro e w4 ⟨m, rfl, hS⟩; have H4 := Lib.hid hS; clear hS HO2 H3)
    | (go_at_call 25; (with_reducible refine (HG.out _ _ _ _ H4.out).mono ?_); rintro e w5 ⟨v, rfl, hS⟩; have H5 := Lib.hid hS; clear hS HG H4)
    | (go_at_call 26; (with_reducible refine (equal68 ((H5.out.later (B.alloc' _ _)).byBs (by simp [big])) (lit78 _)).mono ?_); rintro e w6 ⟨rfl, rfl⟩; have H6 := Lib.hid (H5.out.later (B.alloc' _ (.cells #[.int .u8 7, .int .u8 8] 5))).drop; rw [show (([7, 8] : List UInt8) == [7, 8]) = true from rfl]; clear H5)
    | (go_at_call 13; (with_reducible refine (Llast_c H6.out).mono ?_); rintro e w7 ⟨rfl, hb⟩; have H7 := Lib.hid (H6.out.later hb); rw [show lastF ⟨nLog, 64, 1, 1, 1, 13, [[7, 8]]⟩ = 1 from rfl]; clear H6 hb)
    | (go_at_call_of 12 p; (with_reducible refine (Lsynced_c H7.out.swap).mono ?_); rintro e w8 ⟨rfl, rfl⟩; rw [show ((lg0 nLog 64 0).add [7, 8]).sure = 0 from rfl])
    | (go_at_call_of 12 m; (with_reducible refine (Lsynced_c H7.out).mono ?_); rintro e w9 ⟨rfl, rfl⟩))
  go_ret
  exact ⟨rfl, H7.out.b⟩
end Go.Proofs.YtoikjgcggmemaaaGreatDoor

/- Going through a log's records: the iterator All$1, and 'kept'. -/
namespace Go.Proofs.YtoikjgcggmemaaaGreatDoor
open Go.RowKit Go.Deep Go.Maps
set_option linter.unusedVariables false
attribute [local go_sem] Oper.semAt_some

/-- numbers from one on, and the records, as an iterator of a log has them -/
structure Its (w0 : World) (b1 b2 : Nat) (A1 A2 : Option Addr) (c1 c2 : Nat) (f : Int) (M : List (List UInt8)) : Prop where
  k1 : w0.cell? ⟨b1, 0, none⟩ = some (.slice A1 M.length c1)
  k2 : w0.cell? ⟨b2, 0, none⟩ = some (.slice A2 M.length c2)
  lt : M.length ≤ 1099511627776
  at1 : ∀ i, i < M.length → ∃ g, A1 = some ⟨g, 0, none⟩ ∧ w0.cell? ⟨g, i, none⟩ = some (.int .i64 (f + (i : Int)))
  at2 : ∀ i b, M[i]? = some b → ∃ g u, A2 = some ⟨g, 0, none⟩ ∧ w0.cell? ⟨g, i, none⟩ = some u ∧ Bs w0 u b
theorem Its.later {w0 w1 : World} {b1 b2 : Nat} {A1 A2 : Option Addr} {c1 c2 : Nat} {f : Int} {M : List (List UInt8)} (h : Its w0 b1 b2 A1 A2 c1 c2 f M) (hb : B w0 w1) : Its w1 b1 b2 A1 A2 c1 c2 f M :=
  ⟨hb.cell h.k1, hb.cell h.k2, h.lt, fun i hi => let ⟨g, e, k⟩ := h.at1 i hi; ⟨g, e, hb.cell k⟩, fun i b hi => let ⟨g, u, e, k, r⟩ := h.at2 i b hi; ⟨g, u, e, hb.cell k, r.later hb⟩⟩
/-- a number, its record as a value, the record -/
abbrev Ix := Int × Value × List UInt8
def ItY (w0 : World) (f : Int) (M : List (List UInt8)) (x : Ix) (W : World) : Prop := (∃ i : Nat, x.1 = f + (i : Int) ∧ M[i]? = some x.2.2) ∧ St w0 W [aBy x.2.1 x.2.2]
theorem ItY.bears {w0 w1 : World} {f : Int} {M : List (List UInt8)} {x : Ix} (hz : w0.heap.size ≤ w1.heap.size) : Bears w1.heap.size (ItY w0 f M x) :=
  ⟨fun W o h => ⟨h.1, h.2.later (B.alloc' _ _)⟩, fun W l o o' h hl ho hno => ⟨h.1, h.2.putObj o' (cel_cons (aBy.cel _ _) (by simp)) (by omega) ho hno⟩⟩
theorem B.putObj {w0 W : World} {l : Nat} {o o' : Obj} (h : B w0 W) (hl : w0.heap.size ≤ l) (ho : W.heap[l]? = some o) (hno : o.isCells = false) : B w0 (W.putObj l o') :=
  (St.putObj (L := []) o' (⟨h, trivial⟩ : St w0 W []) (by simp) hl ho hno).b
theorem B.bears {w0 w1 : World} (hz : w0.heap.size ≤ w1.heap.size) : Bears w1.heap.size (B w0) :=
  ⟨fun W o h => h.trans (B.alloc' _ _), fun W l o o' h hl ho hno => B.putObj h (by omega) ho hno⟩
section
variable {w0 : World} {b1 b2 : Nat} {A1 A2 : Option Addr} {c1 c2 : Nat} {f : Int} {M : List (List UInt8)}
set_option maxRecDepth 100000 in
set_option maxHeartbeats 2000000 in
theorem all1_in (hI : Its w0 b1 b2 A1 A2 c1 c2 f M) (k : Nat) (hk : 1 ≤ k) (l : Nat) (T : World → Prop) (hT : ∀ A B, T A → KeepsOthers A B → T B) (W1 : World) (hT1 : T W1) (h0 : B w0 W1)
    (hY : ∀ x W, ItY w0 f M x W → T W → YieldAt Fence.wide (k - 1) Tryz.prog l #[.int .i64 x.1, x.2.1] W fun e W' => e = .returned (.bool true) ∧ B w0 W' ∧ T W') :
    CallsIn Fence.wide k Tryz.prog 39 #[.func (.yield l) #[] #[], .pointer (some ⟨b1, 0, none⟩), .pointer (some ⟨b2, 0, none⟩)] W1 fun e W' => (∃ v, e = .returned v) ∧ B w0 W' ∧ T W' := by
  obtain ⟨m, hm⟩ : ∃ m, M.length = m := ⟨_, rfl⟩
  have HM := Lib.hid hm
  have k1 := h0.cell hI.k1
  have hlt := hI.lt
  rw [hm] at k1 hlt
  have HI := Lib.hid hI
  have H0 := Lib.hid h0
  clear hm hI h0
  refine callsIn_of_wp Tryz.func39 rfl trivial ?_ rfl
  simp only [Tryz.ntmps39, List.size_toArray, List.length_cons, List.length_nil, Nat.reduceAdd, Nat.reduceSub, Array.replicate_succ, Array.replicate_zero, List.push_toArray, List.append_toArray, List.nil_append, List.cons_append]
  gi_wp2
  gi_loopw [8] (fun i wr => ∃ j : Nat, i = .int .i64 (j : Int) ∧ j ≤ m ∧ T wr ∧ Hid (B w0 wr)) (fun i wr => m - (intOf i).toNat)
  case atStart => exact ⟨0, rfl, Nat.zero_le _, hT1, H0⟩
  case round =>
    obtain ⟨j, rfl, hj, hTr, hBr⟩ := hrel
    by_cases hjm : j < m
    · obtain ⟨g1, rfl, a1⟩ := HI.out.at1 j (by have := HM.out; omega)
      obtain ⟨b, hb⟩ : ∃ b, M[j]? = some b := ⟨_, List.getElem?_eq_getElem (by have := HM.out; omega)⟩
      obtain ⟨g2, u, rfl, a2, r2⟩ := HI.out.at2 j b hb
      have e1 := hBr.out.cell a1
      have e2 := hBr.out.cell a2
      have e3 := hBr.out.cell HI.out.k2
      rw [HM.out] at e3
      have HC := Lib.hid (clone89 (r2.later hBr.out))
      have HBJ := Lib.hid hb
      clear a1 a2 r2 hb
      gi_wp2_with (first
        | ((try refine ⟨trivial, ?_⟩); gi_at_call 40; (with_reducible refine (callsIn_wide.2 HC.out).mono ?_); rintro e w3 ⟨v3, rfl, r3, hb3⟩; have hS := (St.nil w0).later hBr.out |>.addRow hb3 r3; have hT3 := hT _ _ hTr (KeepsOthers.of_B hb3); have hyy := hY (f + (j : Int), v3, b) w3 ⟨⟨j, rfl, HBJ.out⟩, hS⟩ hT3; clear hb3 r3 hS; obtain ⟨fn, tmps, assign, body, hy, hR⟩ := hyy; dsimp only at hy))
      refine hR.mono ?_
      rintro e W3 ⟨rfl, hB3, hT4⟩
      have HB3 := Lib.hid hB3
      clear hB3 hR hy
      gi_wp2
      go_roundw
      case rel => exact ⟨j + 1, by go_num, by omega, hT4, HB3⟩
      case measure => simp [intOf]; omega
    · obtain rfl : j = m := by omega
      have HTr := Lib.hid hTr
      gi_wp2
      refine bodyPost_end (results_none rfl _ _ _) rfl ?_
      exact ⟨⟨_, rfl⟩, hBr.out, HTr.out⟩
set_option maxRecDepth 100000 in
set_option maxHeartbeats 4000000 in
theorem kept_yes {w : World} {m : Nat} (hI : Its w b1 b2 A1 A2 c1 c2 f M) (hlook : ∀ w' (i : Nat) b, B w w' → M[i]? = some b → ∃ v, (Instr.lookup 31 (.map (some m)) (.int .i64 (f + (i : Int))) false).run Tryz.prog w' = .ok v w' ∧ Bs w' v b) :
    Calls Tryz.prog 17 #[.func (.func 39) #[] #[.pointer (some ⟨b1, 0, none⟩), .pointer (some ⟨b2, 0, none⟩)], .map (some m)] w fun e w' => e = .returned (.bool true) ∧ B w w' := by
  have HI := Lib.hid hI
  have HL := Lib.hid hlook
  clear hI hlook
  refine (callsIn_wide (n := 4)).1 ?_
  refine callsIn_of_wp_marks Tryz.func17 rfl trivial ?_ rfl
  simp only [Tryz.ntmps17, List.size_toArray, List.length_cons, List.length_nil, Nat.reduceAdd, Nat.reduceSub, Array.replicate_succ, Array.replicate_zero, List.push_toArray, List.append_toArray, List.nil_append, List.cons_append]
  gi_wp2_with fail
  have h1 := aBlk.new (aBlk.new (St.nil w) 31 #[.map (some m)]) 4 #[.bool false]
  rw [World.size_alloc] at h1
  have hb1 := h1.b
  have hI1 := HI.out.later hb1
  have kb := (aBlk.get h1.swap).cell 0
  simp only [List.getElem?_toArray, List.getElem?_cons_zero] at kb
  have H1 := Lib.hid h1
  clear h1
  obtain ⟨w1, hw1⟩ : ∃ w1, (w.alloc (.cells #[.map (some m)] 31)).alloc (.cells #[.bool false] 4) = w1 := ⟨_, rfl⟩
  rw [hw1] at hb1 hI1 kb H1 ⊢
  have HB1 := Lib.hid hb1
  have HI1 := Lib.hid hI1
  have hsz : w1.heap.size = w.heap.size + 2 := by rw [← hw1]; simp
  clear hw1 hb1 hI1
  refine range_go (F := Fence.wide) rfl (by omega) (gf := 39) (lb := #[.pointer (some ⟨b1, 0, none⟩), .pointer (some ⟨b2, 0, none⟩)]) rfl trivial (enters_of Tryz.func39 (by kernel_rfl) rfl)
    (encs := fun x : Ix => #[.int .i64 x.1, x.2.1]) (S := fun _ => True) (fun x => rfl) (fun _ => B w1) (fun _ => B w1) (fun _ x => ItY w1 f M x)
    (fun _ => B.bears (Nat.le_refl _)) (fun _ _ => ItY.bears (Nat.le_refl _)) (fun _ => B.bears (Nat.le_refl _)) (Below.refl _ _)
    (fun x => { tmps := #[.func (.func 39) #[] #[.pointer (some ⟨b1, 0, none⟩), .pointer (some ⟨b2, 0, none⟩)], .map (some m), undef, .pointer (some ⟨w.heap.size, 0, none⟩), .pointer (some ⟨w.heap.size + 1, 0, none⟩), .int .i64 x.1, x.2.1, .func (.func 39) #[] #[.pointer (some ⟨b1, 0, none⟩), .pointer (some ⟨b2, 0, none⟩)], .int .i64 x.1, x.2.1, undef, undef, undef, undef, undef, undef], defers := [] }) ?assign ?body ?hit ?done
  case assign =>
    intro l x W K hK
    gi_wp2
    exact hK
  case hit =>
    intro l W1 T hT hT1 h0 hY
    refine (all1_in HI1.out _ (by omega) l T hT W1 hT1 h0 (fun x W hx hTW => hY [] x W hx hTW)).mono ?_
    rintro e W' ⟨h1, h2, h3⟩
    exact ⟨h1, [], trivial, h2, h3⟩
  case body =>
    rintro l pre ⟨xn, xv, xb⟩ W ⟨⟨i, hi, hx⟩, hS⟩
    dsimp only at hi hx hS
    subst hi
    obtain ⟨v, hrun, hv⟩ := HL.out W i xb (HB1.out.trans hS.b) hx
    have kl := hS.b.cell kb
    have hxb : xb.length ≤ big := hv.2
    have hE := Lib.hid (equal68 (hS.byBs hxb) hv)
    have HB := Lib.hid hS.b
    clear hS hv hx
    gi_wp2_with (first
      | ((try refine ⟨trivial, ?_⟩); gi_at_call 26; (with_reducible refine ((callsIn_wide.2 hE.out).inRound l).mono ?_); rintro e w3 ⟨rfl, rfl⟩; simp only [beq_self_eq_true]))
    exact ⟨KeepsOthers.refl _, HB.out⟩
  case done =>
    rintro D xs W hD _ hJ hK
    have hS := H1.out.later hJ
    have z0 := (aBlk.get hS).cell 0
    have f0 := (aBlk.get hS).frozen 0
    simp only [List.getElem?_toArray, List.getElem?_cons_zero] at z0
    have HS := Lib.hid hS
    have HD := Lib.hid hK
    clear hS hK hJ
    gi_wp2
    have h4 := aBlk.set HS.out 0 (.bool true)
    have hk4 := (KeepsOthers.setCell W ⟨w.heap.size + 1, 0, none⟩ (.bool true)).same D _ HD.out rfl
    have h5 := h4.putObj (.deferred none) (cel_cons (aBlk.cel _ _ _) (cel_cons (aBlk.cel _ _ _) (by simp))) (by omega) hk4 rfl
    refine ⟨by simp, .inl ⟨_, _, rfl, run_takeDeferred hk4, ?_⟩⟩
    have c5 := (aBlk.get h5).cell 0
    simp at c5
    refine ⟨.bool true, ?_, rfl, h5.b⟩
    simp [results, Tryz.f17, go_sem, c5]
end
end Go.Proofs.YtoikjgcggmemaaaGreatDoor

/- A log begun on an empty disk of any room; Append where a record is not put. -/
namespace Go.Proofs.YtoikjgcggmemaaaGreatDoor
open Go.RowKit Go.Deep Go.Maps
set_option linter.unusedVariables false

def dZr (r : Int) : Dk := ⟨[], r, false⟩
theorem createD (n : List UInt8) (r : Int) : createF (dZr r) (file1 n) = (0, dF n [] 0 r) := by
  unfold createF dZr
  rw [if_neg (by simp), if_neg (file1_ne n)]
  rfl
theorem appendD (n b c : List UInt8) (s : Nat) (r : Int) (h : (b.length : Int) + (c.length : Int) ≤ r) : appendF (dF n b s r) (file1 n) c = (0, dF n (b ++ c) s r) := by
  unfold appendF
  rw [turn_some (mayD n b s r) (f := ⟨file1 n, b, s⟩) rfl]
  rw [if_neg (by simp [dF, usedF]; omega)]
  rfl
theorem appendD_no (n b c : List UInt8) (s : Nat) (r : Int) (h : ¬ (b.length : Int) + (c.length : Int) ≤ r) : appendF (dF n b s r) (file1 n) c = (30, dF n b s r) := by
  unfold appendF
  rw [turn_some (mayD n b s r) (f := ⟨file1 n, b, s⟩) rfl]
  rw [if_pos (by simp [dF, usedF]; omega)]
  rfl
section
variable {W w : World} {p dp : Nat} {X : List Asn} {n : List UInt8} {most r : Int}
set_option maxRecDepth 20000 in
set_option maxHeartbeats 4000000 in
theorem begins_r (hr : 6 ≤ r) (h : St W w (aBlk p 54 #[.pointer (some ⟨dp, 0, none⟩), .string (bstr n), .int .i64 most, .slice none 0 0, .int .i64 0] :: aDisk dp (dZr r) :: X)) (hn : n.length ≤ 4194304) :
    Calls Tryz.prog 23 #[.pointer (some ⟨p, 0, none⟩), .int .i64 1, .int .i64 1] w fun e w' => e = .returned (.int .i64 0) ∧ St W w' (aLg p dp (lg0 n most 0) :: aDisk dp (dF n (headF 1) 6 r) :: X) := by
  have hb := aBlk.get h
  have c0 := hb.cell 0
  have c1 := hb.cell 1
  have c3 := hb.cell 3
  simp at c0 c1 c3
  have hfl : (file1 n).length ≤ maxLen := by simp [file1]; unfold maxLen; omega
  have HFL := Lib.hid hfl
  have o4 : ∀ x ∈ [Value.int .i64 1, .int .i64 1, .slice none 0 0, .int .i64 6], x.oneCell' = true := by simp [Value.oneCell']
  have HFI := Lib.hid (fun w' => file_c w' (n := n) (by omega))
  have HCR := Lib.hid (by have := create_c h.swap hfl; rw [createD] at this; exact this)
  have HPN := Lib.hid (fun w' Y (hS : St W w' Y) => show Calls Tryz.prog 45 #[.slice none 0 0, .int .u64 1] w' fun e w'' => ∃ v, e = .returned v ∧ St W w'' (aBy v (enc 1) :: Y) from hS.fresh (putNum70 (Bs.nil w') 1 (by omega) (by unfold big; simp)))
  have HFR := Lib.hid (fun w' v Y (hS : St W w' (aBy v (enc 1) :: Y)) => frame_yes hS (hS.byBs (by rw [enc_lt (by omega)]; simp [big])) (by rw [enc_lt (by omega)]; simp))
  have H6 := Lib.hid head1_len
  have HBG1 := Lib.hid (by have := appendD n [] (headF 1) 0 r (by rw [head1_len]; simp; omega); simpa using this)
  have HBG2 := Lib.hid (by have := syncD n (headF 1) 0 r; rw [head1_len] at this; exact this)
  have HAP := Lib.hid (fun w' v Y (hS : St W w' (aDisk dp (dF n [] 0 r) :: aBy v (headF 1) :: Y)) => show Calls Tryz.prog 30 #[.pointer (some ⟨dp, 0, none⟩), .string (bstr (file1 n)), v] w' fun e w'' => e = .returned (.int .i64 0) ∧ St W w'' (aDisk dp (dF n (headF 1) 0 r) :: aBy v (headF 1) :: Y) from by
    have := append_c hS HFL.out (hS.swap.byBs (by rw [head1_len]; unfold big; omega)) (by rw [head1_len]; omega)
    rw [HBG1.out] at this
    exact this)
  have HSY := Lib.hid (fun w' Y (hS : St W w' (aDisk dp (dF n (headF 1) 0 r) :: Y)) => show Calls Tryz.prog 33 #[.pointer (some ⟨dp, 0, none⟩), .string (bstr (file1 n))] w' fun e w'' => e = .returned (.int .i64 0) ∧ St W w'' (aDisk dp (dF n (headF 1) 6 r) :: Y) from by
    have := sync_c hS HFL.out
    rw [HBG2.out] at this
    exact this)
  have HK8 := Lib.hid (fun (w' : World) (s c7 : Nat) (Y : List Asn) (hS : St W w' (aBlk p 54 #[.pointer (some ⟨dp, 0, none⟩), .string (bstr n), .int .i64 most, .slice none 0 0, .int .i64 0] :: aRow 67 4 (.slice (some ⟨s, 0, none⟩) 1 c7) 1 [.int .i64 1, .int .i64 1, .slice none 0 0, .int .i64 6] :: Y)) =>
    show St W (w'.setCell ⟨p, 3, none⟩ (.slice (some ⟨s, 0, none⟩) 1 c7)) (lgL p dp (lg0 n most 0) s c7 (.slice none 0 0) ++ Y) from by
    have h1 := aBlk.set hS 3 (.slice (some ⟨s, 0, none⟩) 1 c7)
    have h2 := aPl.nil h1
    exact h2.rot3.rot3)
  have H66 := H6
  clear h hb hfl H6 hr
  go_enter Tryz.func23, Tryz.ntmps23
  go_wp2_with (first
    | (go_at_call 31; (with_reducible refine (HFI.out _).mono ?_); rintro e w1 ⟨rfl, rfl⟩)
    | (go_at_call 44; (with_reducible refine HCR.out.mono ?_); rintro e w2 ⟨rfl, hS⟩; have H2 := Lib.hid hS; have k0 := hS.cellOf (g := p) (t := 54) (cs := #[.pointer (some ⟨dp, 0, none⟩), .string (bstr n), .int .i64 most, .slice none 0 0, .int .i64 0]) (by simp) 0; simp only [List.getElem?_toArray, List.getElem?_cons_zero] at k0; clear hS)
    | (go_at_call 45; (with_reducible refine (HPN.out _ _ H2.out).mono ?_); rintro e w3 ⟨v3, rfl, hS⟩; have H3 := Lib.hid hS; clear hS)
    | (go_at_call 28; (with_reducible refine (HFR.out _ _ _ H3.out).mono ?_); rintro e w4 ⟨v4, rfl, hS⟩; obtain ⟨A4, c4, hv⟩ := hS.bySlice; rw [show (frameF (enc 1)).length = 6 from H66.out] at hv; subst hv; have H4 := Lib.hid (show St W w4 (aBy (.slice A4 6 c4) (headF 1) :: _) from hS); have k40 := hS.cellOf (g := p) (t := 54) (cs := #[.pointer (some ⟨dp, 0, none⟩), .string (bstr n), .int .i64 most, .slice none 0 0, .int .i64 0]) (by simp) 0; simp only [List.getElem?_toArray, List.getElem?_cons_zero] at k40; clear hS)
    | (go_at_call 30; (with_reducible refine (HAP.out _ _ _ H4.out.rot3).mono ?_); rintro e w5 ⟨rfl, hS⟩; have H5 := Lib.hid hS; have k50 := hS.cellOf (g := p) (t := 54) (cs := #[.pointer (some ⟨dp, 0, none⟩), .string (bstr n), .int .i64 most, .slice none 0 0, .int .i64 0]) (by simp) 0; simp only [List.getElem?_toArray, List.getElem?_cons_zero] at k50; clear hS)
    | (go_at_call 33; (with_reducible refine (HSY.out _ _ H5.out).mono ?_); rintro e w6 ⟨rfl, hS⟩; have H6 := Lib.hid hS; have k63 := hS.cellOf (g := p) (t := 54) (cs := #[.pointer (some ⟨dp, 0, none⟩), .string (bstr n), .int .i64 most, .slice none 0 0, .int .i64 0]) (by simp) 3; simp only [List.getElem?_toArray, List.getElem?_cons_succ, List.getElem?_cons_zero] at k63; clear hS)
    | (at_builtin; refine wpList_append_St rfl (.tmp 64) (.tmp 70) 52 rfl Tryz.underlying52 infoSeg rfl (by decide) rfl rfl ((H6.out.later (B.alloc' _ _)).rowNil 67 4) (Rd.four _ _ _ _ _ _) o4 (by unfold maxLen; omega) (by omega) ?_; intro A7 c7 w7 hS; simp only [Nat.zero_add, List.nil_append] at hS; simp only [Nat.zero_add]; obtain ⟨s, rfl⟩ := hS.rowNSome (by omega); have H8 := Lib.hid (HK8.out _ _ _ _ hS.rot5); have k73 := (aBlk.get hS.rot5).cell 3; have f73 := (aBlk.get hS.rot5).frozen 3; simp at k73; clear hS)
    | (go_at_call 13; (with_reducible refine (Llast_o H8.out (lg0E n most 0)).mono ?_); rintro e w9 ⟨rfl, hb⟩; rw [show lastF (lg0 n most 0) = 0 from rfl]; have H9 := Lib.hid (H8.out.later hb); have k94 := (lgL.cells H9.out).2.2.2.2.1; have f94 := (aBlk.get H9.out).frozen 4; clear hb))
  go_ret
  have h9 := aBlk.set H9.out 4 (.int .i64 0)
  refine ⟨rfl, ?_⟩
  have h10 : St W _ (lgL p dp (lg0 n most 0) s c7 (.slice none 0 0) ++ (aDisk dp (dF n (headF 1) 6 r) :: aBy (.slice A4 6 c4) (headF 1) :: aBy v3 (enc 1) :: X)) := h9
  exact (aLg.shut (lg0E n most 0) h10).rot3.drop.rot3.drop
set_option maxRecDepth 20000 in
set_option maxHeartbeats 4000000 in
theorem open0_r (hr : 6 ≤ r) (h : St W w (aDisk dp (dZr r) :: X)) (hm : mayN n most = true) (hn : n.length ≤ 4194304) :
    Calls Tryz.prog 5 #[.pointer (some ⟨dp, 0, none⟩), .string (bstr n), .int .i64 most] w fun e w' => ∃ p, e = .returned (.tuple #[.pointer (some ⟨p, 0, none⟩), .int .i64 0]) ∧ St W w' (aLg p dp (lg0 n most 0) :: aDisk dp (dF n (headF 1) 6 r) :: X) := by
  have HC := Lib.hid (clone_c h (fun f hf => by cases hf))
  have HM := Lib.hid (fun w' => may_c w' (n := n) (m := most))
  have HNL := Lib.hid hn
  have HRR := Lib.hid hr
  rw [hm] at HM
  clear h hm hn hr
  go_enter Tryz.func5, Tryz.ntmps5
  go_wp2_with (first
    | (go_at_call 19; (with_reducible refine HC.out.mono ?_); rintro e w1 ⟨c, rfl, hS⟩; have H1 := Lib.hid hS.drop; clear hS)
    | (go_at_call 20; (with_reducible refine (offD_c H1.out).mono ?_); rintro e w2 ⟨rfl, rfl⟩; rw [show (dZr r).off = false from rfl])
    | (go_at_call 21; (with_reducible refine (HM.out _).mono ?_); rintro e w3 ⟨rfl, hb⟩; have H3 := Lib.hid (aBlk.new (H1.out.later hb) 54 #[.pointer (some ⟨dp, 0, none⟩), .string (bstr n), .int .i64 most, .slice none 0 0, .int .i64 0]); clear hb)
    | (go_at_call 22; (with_reducible refine (numbers0 H3.out.swap rfl).mono ?_); rintro e w4 ⟨rfl, hS⟩; have H4 := Lib.hid hS.swap; clear hS)
    | (go_at_call 23; (with_reducible refine (begins_r HRR.out H4.out HNL.out).mono ?_); rintro e w5 ⟨rfl, hS⟩; have H5 := Lib.hid hS; clear hS))
  go_ret2
  exact ⟨_, rfl, H5.out⟩
end
section
variable {W w : World} {p dp : Nat} {X : List Asn} {g : Lg} {d d' : Dk} {u : Value} {b : List UInt8}
set_option maxRecDepth 20000 in
set_option maxHeartbeats 8000000 in
theorem Lappend_full (h : St W w (aLg p dp g :: aDisk dp d :: X)) (hu : ∀ (w' : World) (Y : List Asn), St W w' (Y ++ X) → Bs w' u b) (hb : b.length ≤ 524288) (hg1 : g.n = 1) (hroll : g.L = [] ∨ g.size < g.most) (hn : g.name.length ≤ 4194304) (hap : appendF d (file1 g.name) (frameF b) = (30, d))
    (hsz : 0 ≤ g.size ∧ g.size ≤ 1099511627776) (hl : g.L.length + 1 ≤ 1099511627776) :
    Calls Tryz.prog 7 #[.pointer (some ⟨p, 0, none⟩), u] w fun e w' => e = .returned (.tuple #[.int .i64 0, .int .i64 30]) ∧ St W w' (aLg p dp g :: aDisk dp d :: X) := by
  obtain ⟨s, c, vL, hE, h⟩ := aLg.open_ h
  have HN := Lib.hid (Lnone_o h)
  obtain ⟨AL, cL, rfl⟩ := lgL.recs h
  have hu0 : Bs w u b := hu w (lgL p dp g s c (.slice AL g.L.length cL) ++ [aDisk dp d]) h
  have HFR := Lib.hid (frame_yes h hu0 hb)
  have HU := Lib.hid hu
  have HFL := Lib.hid (frame_len hb)
  have hfn : (file1 g.name).length ≤ maxLen := by simp [file1]; unfold maxLen; omega
  have HFI := Lib.hid (fun w' => file_c w' (n := g.name) (by omega))
  obtain ⟨Au, cu, rfl⟩ := hu0.rd.slice
  have HEE := Lib.hid hE
  have HAP := Lib.hid (fun w' v Y (hS : St W w' (aDisk dp d :: Y)) (hv : Bs w' v (frameF b)) => show Calls Tryz.prog 30 #[.pointer (some ⟨dp, 0, none⟩), .string (bstr (file1 g.name)), v] w' fun e w'' => e = .returned (.int .i64 30) ∧ St W w'' (aDisk dp d :: Y) from by
    have := append_c hS hfn hv (by have := HFL.out; omega)
    rw [hap] at this
    exact this)
  obtain ⟨name, most, sure, sn, first, size, L⟩ := g
  simp only at *
  subst hg1
  obtain ⟨fl, hfl⟩ : ∃ fl, (frameF b).length = fl := ⟨_, rfl⟩
  have HFLE := Lib.hid hfl
  have hfl2 : fl ≤ 524302 := by have := HFL.out; omega
  obtain ⟨l, hll⟩ : ∃ l, L.length = l := ⟨_, rfl⟩
  have HLL := Lib.hid hll
  obtain ⟨bl, hbl⟩ : ∃ bl, b.length = bl := ⟨_, rfl⟩
  have HBL := Lib.hid hbl
  obtain ⟨hsz1, hsz2⟩ := hsz
  have hr2 : L.length = 0 ∨ size < most := hroll.elim (fun e => .inl (by rw [e]; rfl)) .inr
  rw [hll] at hr2
  have hmk := fun w' => run_mk8 w' bl (by omega)
  rw [hbl] at HFR HU ⊢
  rw [hll] at HFR
  have HBB := Lib.hid (show b.length ≤ big by unfold big; omega)
  have HLB := Lib.hid hl
  have HCL := Lib.hid (fun (w' : World) (Y : List Asn) (hS : St W w' (lgL p dp { name := name, most := most, sure := sure, n := 1, first := first, size := size, L := L } s c (.slice AL l cL) ++ Y)) => lgL.cells hS)
  have HEN := Lib.hid (fun (w' : World) (Y : List Asn) (hS : St W w' (lgL p dp { name := name, most := most, sure := sure, n := 1, first := first, size := size, L := L } s c (.slice AL l cL) ++ Y)) => Lend_o hS)
  clear h hu hu0 hb hn hap hl hfn hE hfl hll hbl hroll
  go_enter Tryz.func7, Tryz.ntmps7
  go_wp2_with (first
    | (go_at_call 27; (with_reducible refine HN.out.mono ?_); rintro e w1 ⟨rfl, rfl⟩)
    | (go_at_call 28; (with_reducible refine HFR.out.mono ?_); rintro e w2 ⟨vf, rfl, hS⟩; obtain ⟨Af, cf, hv⟩ := hS.bySlice; rw [HFLE.out] at hv; subst hv; have H2 := Lib.hid (show St W w2 (lgL p dp { name := name, most := most, sure := sure, n := 1, first := first, size := size, L := L } s c (.slice AL l cL) ++ (aBy (.slice Af fl cf) (frameF b) :: aDisk dp d :: X)) from St.rot4 (St.rot4 (St.rot4 hS))); clear hS)
    | (go_at_call 29; (with_reducible refine (HEN.out _ _ H2.out).mono ?_); rintro e w3 ⟨rfl, hb⟩; have H3 := Lib.hid (H2.out.later hb); obtain ⟨m0, m1, m2, m3, m4, n0, n1, n2, n3⟩ := HCL.out _ _ H3.out; clear hb))
  have hcase : (¬ 0 < l) ∨ (0 < l ∧ ¬ most ≤ size) := by omega
  rcases hcase with p1 | ⟨p1, p2⟩
  all_goals
    go_quiet (fail)
    go_wp2_with (first
      | (go_at_call 29; (with_reducible refine (HEN.out _ _ (H3.out.drewN _)).mono ?_); rintro e w4 ⟨rfl, hb⟩; have H4 := Lib.hid (((H3.out.drewN _).later hb).later (Below.refl _ _).drew); have hS := (H3.out.drewN _).later hb; clear m0 m1 m2 m3 m4 n0 n1 n2 n3; obtain ⟨m0, m1, m2, m3, m4, n0, n1, n2, n3⟩ := HCL.out _ _ hS; clear hb hS))
    go_region_held3 (fun w' => w'.cell? ⟨p, 0, none⟩ = some (.pointer (some ⟨dp, 0, none⟩)) ∧ w'.cell? ⟨p, 1, none⟩ = some (.string (bstr name)) ∧ w'.cell? ⟨s, 0, none⟩ = some (.int .i64 1)) (first | assumption | (refine ⟨?_, ?_, ?_⟩ <;> assumption)) (first
      | (go_at_call 31; (with_reducible refine (HFI.out _).mono ?_); rintro e w5 ⟨rfl, rfl⟩)
      | (go_at_call 30; (with_reducible refine (HAP.out _ _ _ (St.rot5 H4.out) ((St.rot4 H4.out).byBs (by have := HFL.out; unfold big; omega))).mono ?_); rintro e w6 ⟨rfl, hS⟩; have H6 := Lib.hid hS; clear m0 m1 m2 m3 m4 n0 n1 n2 n3; obtain ⟨m0, m1, m2, m3, m4, n0, n1, n2, n3⟩ := HCL.out _ _ (St.drop hS); clear hS))
    all_goals
      go_wp2_with fail
      go_ret2
      exact ⟨rfl, aLg.shut HEE.out (show St W _ (lgL p dp { name := name, most := most, sure := sure, n := 1, first := first, size := size, L := L } s c (.slice AL l cL) ++ (aDisk dp d :: X)) from (H6.out.rot5.drop).rot4.rot4.rot4)⟩
set_option maxRecDepth 20000 in
theorem Lappend_long (h : St W w (aLg p dp g :: X)) (hu : Bs w u b) (hb : ¬ b.length ≤ 524288) :
    Calls Tryz.prog 7 #[.pointer (some ⟨p, 0, none⟩), u] w fun e w' => e = .returned (.tuple #[.int .i64 0, .int .i64 3]) ∧ w = w' := by
  obtain ⟨s, c, vL, hE, h⟩ := aLg.open_ h
  have HN := Lib.hid (Lnone_o h)
  have HFR := Lib.hid (frame_no h hu hb)
  clear h hu hb hE
  go_enter Tryz.func7, Tryz.ntmps7
  go_wp2_with (first
    | (go_at_call 27; (with_reducible refine HN.out.mono ?_); rintro e w1 ⟨rfl, rfl⟩)
    | (go_at_call 28; (with_reducible refine HFR.out.mono ?_); rintro e w2 ⟨rfl, rfl⟩))
  go_ret2
  exact ⟨rfl, rfl⟩
end
end Go.Proofs.YtoikjgcggmemaaaGreatDoor
