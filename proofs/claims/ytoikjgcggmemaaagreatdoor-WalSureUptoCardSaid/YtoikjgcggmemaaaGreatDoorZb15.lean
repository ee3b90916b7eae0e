/- Lemmas and contracts, part 15. -/
import Derived.Test.YtoikjgcggmemaaaGreatDoorZb14
import Derived.Laws.ResultCell
/- wal.read: a segment's records. -/
namespace Go.Proofs.YtoikjgcggmemaaaGreatDoor
open Go.RowKit Go.Deep
set_option linter.unusedVariables false
attribute [local go_sem] Oper.semAt_some

theorem wpListIn_append_run {F : Fence} {n : Nat} {P : Program} {w : World} {ops : Array Oper} {rest : List Oper} {o : Oper} {a : Act} {Q : Exit → Act → World → Prop} (hgd : o.guard = none) (s x : Operand) (t : TypeId)
    (ho : o.op = .call { callee := .builtin .append, args := #[s, x], argTypes := #[t, t] }) {v u v' : Value} {w' : World} (hs : a.eval s = v) (hx : a.eval x = u)
    (hrun : (Builtin.append_ #[t, t] o.type #[v, u]).run P w = .ok v' w') (h : wpListIn F n P ops Q rest (a.put o.dst v') w') : wpListIn F n P ops Q (o :: rest) a w := by
  refine wpListIn_plain hgd fun K hK => ?_
  unfold Oper.wpIn
  refine ⟨by simp [Oper.about, ho, resolve, Target.leads, Sem.run_pure], ?_⟩
  rw [Oper.semAt_plain F _ _ (by rw [ho]; intro c hc'; cases hc')]
  simp [execOp, ho, resolve, invoke, builtin, hs, hx, hrun, Result.andThen]
  exact hK _ _ h
theorem frames_sum : ∀ (n : Nat) (bs : List UInt8), bs.length ≤ n → ((framesF bs).map (·.2)).sum ≤ bs.length ∧ (framesF bs).length ≤ bs.length
  | n, bs, hn => by
    cases h : unframeF bs with
    | none => rw [framesF_none h]; simp
    | some r =>
      obtain ⟨h1, h2, _⟩ := unframe_le h
      rw [framesF_some h]
      obtain ⟨k, rfl⟩ : ∃ k, n = k + 1 := ⟨n - 1, by omega⟩
      have := frames_sum k (bs.drop r.2) (by rw [List.length_drop]; omega)
      rw [List.length_drop] at this
      simp; omega
section
variable {W w : World} {u : Value} {b : List UInt8}
section
variable {w0 : World} {box D : Nat} {b0 : List UInt8} {Y : List Fx → List Asn → Prop}
theorem cel_cons {A : Asn} {L : List Asn} (hA : A.Cel) (h : ∀ A ∈ L, A.Cel) : ∀ C ∈ A :: L, C.Cel := by
  intro C hC
  rcases List.mem_cons.1 hC with rfl | hC
  · exact hA
  · exact h C hC
theorem FrJ.bears (hD : w0.heap.size ≤ D) (hY : ∀ pre L, Y pre L → ∀ A ∈ L, A.Cel) (pre : List Fx) : Bears D (FrJ w0 box b0 Y pre) := by
  refine ⟨?_, ?_⟩
  · rintro W o ⟨rest, A, c, L, h1, h2, h3, h4, h5⟩
    exact ⟨rest, A, c, L, h1, h2, h3, h4, h5.later (B.alloc' _ _)⟩
  · rintro W l o o' ⟨rest, A, c, L, h1, h2, h3, h4, h5⟩ hl ho hno
    exact ⟨rest, A, c, L, h1, h2, h3, h4, h5.putObj o' (cel_cons (aBlk.cel _ _ _) (hY _ _ h4)) (by omega) ho hno⟩
theorem FrY.bears (hD : w0.heap.size ≤ D) (hY : ∀ pre L, Y pre L → ∀ A ∈ L, A.Cel) (pre : List Fx) (x : Fx) : Bears D (FrY w0 box b0 Y pre x) := by
  refine ⟨?_, ?_⟩
  · rintro W o ⟨rest, A, c, L, h1, h2, h3, h4, h5, h6⟩
    exact ⟨rest, A, c, L, h1, h2, h3, h4, h5, h6.later (B.alloc' _ _)⟩
  · rintro W l o o' ⟨rest, A, c, L, h1, h2, h3, h4, h5, h6⟩ hl ho hno
    exact ⟨rest, A, c, L, h1, h2, h3, h4, h5, h6.putObj o' (cel_cons (aBy.cel _ _) (cel_cons (aBlk.cel _ _ _) (hY _ _ h5))) (by omega) ho hno⟩
theorem Fr2.bears (hD : w0.heap.size ≤ D) (hY : ∀ pre L, Y pre L → ∀ A ∈ L, A.Cel) (pre : List Fx) : Bears D (Fr2 w0 box b0 Y pre) := by
  refine ⟨?_, ?_⟩
  · rintro W o ⟨pre', x, rest, A, c, L, h0, h1, h2, h3, h4, h5, h6⟩
    exact ⟨pre', x, rest, A, c, L, h0, h1, h2, h3, h4, h5, h6.later (B.alloc' _ _)⟩
  · rintro W l o o' ⟨pre', x, rest, A, c, L, h0, h1, h2, h3, h4, h5, h6⟩ hl ho hno
    exact ⟨pre', x, rest, A, c, L, h0, h1, h2, h3, h4, h5, h6.putObj o' (cel_cons (aBlk.cel _ _ _) (hY _ _ h5)) (by omega) ho hno⟩
end
theorem frames_c (w : World) (A : Option Addr) (n c : Nat) : Calls Tryz.prog 62 #[.slice A n c] w fun e w' => e = .returned (.func (.func 78) #[] #[.pointer (some ⟨w.heap.size, 0, none⟩)]) ∧ w' = w.alloc (.cells #[.slice A n c] 32) := by
  go_enter Tryz.func62, Tryz.ntmps62
  go_wp2_with fail
  go_ret
  exact ⟨rfl, rfl⟩
/-- what read makes of the frames behind a head -/
def sizF (k : Nat) (pre : List (List UInt8 × Nat)) : Int := ((k + (pre.map (·.2)).sum : Nat) : Int)
/-- the objects of read beside the iterator's -/
def RdY (z s : Nat) (n : Int) (f k : Nat) (pre : List Fx) (L : List Asn) : Prop :=
  ∃ vL, L = [aBlk s 67 #[.int .i64 n, .int .i64 (f : Int), vL, .int .i64 (sizF k (pre.map (·.2)))], aPl vL (pre.map (·.2.1)), aBlk z 67 #[.int .i64 0, .int .i64 0, .slice none 0 0, .int .i64 0]]
theorem RdY.cel {z s : Nat} {n : Int} {f k : Nat} {pre : List Fx} {L : List Asn} (h : RdY z s n f k pre L) : ∀ A ∈ L, A.Cel := by
  obtain ⟨vL, rfl⟩ := h
  intro A hA
  simp only [List.mem_cons, List.not_mem_nil, or_false] at hA
  rcases hA with rfl | rfl | rfl
  · exact aBlk.cel _ _ _
  · exact aPl.cel _ _
  · exact aBlk.cel _ _ _
set_option maxRecDepth 100000 in
set_option maxHeartbeats 4000000 in
theorem read_s (hu : Bs w u b) (hbl : b.length ≤ 1099511627776) {f k : Nat} (hh : headOf b = some (f, k)) (n : Int) :
    Calls Tryz.prog 47 #[.int .i64 n, u] w fun e w' => ∃ vL, e = .returned (.tuple #[.agg #[.int .i64 n, .int .i64 (f : Int), vL, .int .i64 (sizF k (framesF (b.drop k)))], .bool true]) ∧ St w w' [aPl vL ((framesF (b.drop k)).map (·.1))] := by
  obtain ⟨A, c, rfl⟩ := hu.rd.slice
  have HU := Lib.hid hu
  have HHD := Lib.hid (fun w' (hb : B w w') => (head_c (hu.later hb)).mono (R' := fun e w'' => e = .returned (.tuple #[.int .i64 (f : Int), .int .i64 (k : Int), .bool true]) ∧ B w' w'') (fun e w'' h => by
    obtain ⟨h1, h2⟩ := h
    rw [hh] at h2
    exact ⟨h2, h1⟩))
  have hk : k ≤ b.length := by
    unfold headOf at hh
    split at hh
    · cases hh
    · rename_i x hx
      split at hh
      · simp only [Option.some.injEq, Prod.mk.injEq] at hh
        rw [← hh.2]; exact (unframe_le hx).1
      · cases hh
  obtain ⟨A2, c2, s1, s2, hcut, _⟩ := hu.cut k hk
  have HCUT := Lib.hid hcut
  obtain ⟨bl, hl⟩ : ∃ bl, b.length = bl := ⟨_, rfl⟩
  have HL := Lib.hid hl
  rw [hl] at s1 s2 ⊢ hbl
  have hA := B.alloc' w (.cells #[.int .i64 0, .int .i64 0, .slice none 0 0, .int .i64 0] 67)
  have HHD1 := Lib.hid (HHD.out _ hA)
  rw [hl] at HHD1
  clear hu hk hcut hl hA
  refine (callsIn_wide (n := 4)).1 ?_
  refine callsIn_of_wp_marks Tryz.func47 rfl trivial ?_ rfl
  simp only [Tryz.ntmps47, List.size_toArray, List.length_cons, List.length_nil, Nat.reduceAdd, Nat.reduceSub, Array.replicate_succ, Array.replicate_zero, List.push_toArray, List.append_toArray, List.nil_append, List.cons_append]
  gi_wp2_with (first
    | ((try refine ⟨trivial, ?_⟩); gi_at_call 61; (with_reducible refine (callsIn_wide.2 HHD1.out).mono ?_); rintro e w1 ⟨rfl, hb⟩; have HB1 := Lib.hid hb; clear hb)
    | ((try refine ⟨trivial, ?_⟩); gi_at_call 62; (with_reducible refine (callsIn_wide.2 (frames_c _ _ _ _)).mono ?_); rintro e w2 ⟨rfl, rfl⟩))
  have h1 := aBlk.new (St.nil w) 67 #[.int .i64 0, .int .i64 0, .slice none 0 0, .int .i64 0]
  have h4 := aBlk.new (aPl.nil (h1.later HB1.out)) 67 #[.int .i64 n, .int .i64 (f : Int), .slice none 0 0, .int .i64 (k : Int)]
  have h5 := aBlk.new h4 32 #[.slice A2 (bl - k) c2]
  rw [World.size_alloc] at h5
  have H5 := Lib.hid h5
  have hsz : w.heap.size ≤ ((w1.alloc (.cells #[.int .i64 n, .int .i64 (f : Int), .slice none 0 0, .int .i64 (k : Int)] 67)).alloc (.cells #[.slice A2 (bl - k) c2] 32)).heap.size := h5.b.size
  clear h1 h4 h5
  refine range_go (F := Fence.wide) rfl (by omega) (gf := 78) (lb := #[.pointer (some ⟨w1.heap.size + 1, 0, none⟩)]) rfl trivial (enters_of Tryz.func78 (by kernel_rfl) rfl)
    (encs := fun x : Fx => #[x.1, .int .i64 (x.2.2 : Int)]) (S := fun xs => framesF (b.drop k) = xs.map (·.2)) (fun x => rfl)
    (FrJ w (w1.heap.size + 1) (b.drop k) (RdY w.heap.size w1.heap.size n f k)) (Fr2 w (w1.heap.size + 1) (b.drop k) (RdY w.heap.size w1.heap.size n f k)) (FrY w (w1.heap.size + 1) (b.drop k) (RdY w.heap.size w1.heap.size n f k))
    (FrJ.bears hsz (fun _ _ => RdY.cel)) (FrY.bears hsz (fun _ _ => RdY.cel)) (Fr2.bears hsz (fun _ _ => RdY.cel)) ?h0
    (fun x => { tmps := #[.int .i64 n, .slice A bl c, undef, undef, .pointer (some ⟨w.heap.size, 0, none⟩), .bool false, .int .i64 (f : Int), .int .i64 (k : Int), .bool true, .pointer (some ⟨w1.heap.size, 0, none⟩), x.1, .int .i64 (x.2.2 : Int), .tuple #[.int .i64 (f : Int), .int .i64 (k : Int), .bool true], .slice A bl c, .tuple #[.int .i64 (f : Int), .int .i64 (k : Int), .bool true], .int .i64 (f : Int), .int .i64 (k : Int), .bool true, .int .i64 n, .int .i64 (f : Int), .int .i64 (k : Int), .agg #[.int .i64 n, .int .i64 (f : Int), .slice none 0 0, .int .i64 (k : Int)], .bool true, .bool false, undef, undef, .slice A bl c, .pointer (some ⟨w1.heap.size, 3, none⟩), .int .i64 (k : Int), .slice A2 (bl - k) c2, .func (.func 78) #[] #[.pointer (some ⟨w1.heap.size + 1, 0, none⟩)], x.1, .int .i64 (x.2.2 : Int), undef, undef, undef, undef, undef, undef, undef, undef, undef, undef, undef, undef], defers := [] }) ?assign ?body ?hit ?done
  case h0 =>
    refine ⟨b.drop k, A2, c2, _, by simp [restF], by simp, ?_, ⟨.slice none 0 0, rfl⟩, ?_⟩
    · rw [List.length_drop]; exact HCUT.out
    · have := H5.out
      rw [List.length_drop, HL.out]
      simpa [sizF] using this
  case assign =>
    intro l x W K hK
    gi_wp2
    exact hK
  case hit =>
    intro l W1 T hT hT1 h0 hY
    exact frames1_in _ (by omega) l T hT W1 hT1 h0 hY
  case body =>
    rintro l pre ⟨xv, xb, xm⟩ W ⟨rest, A', c', L, hre, hfr, hun, hbs, ⟨vL, rfl⟩, hS⟩
    obtain ⟨Ax, cx, hxv⟩ := hS.bySlice
    dsimp only at hxv
    subst hxv
    have HRE := Lib.hid hre
    clear hre
    dsimp only at hun hS
    have hsum := frames_sum _ (b.drop k) (Nat.le_refl _)
    rw [hfr, framesF_some hun, List.length_drop, HL.out] at hsum
    simp only [List.map_append, List.sum_append, List.map_cons, List.sum_cons, List.length_append, List.length_cons, List.length_map] at hsum
    obtain ⟨sz, hsz2⟩ : ∃ sz, sizF k (pre.map (·.2)) = sz := ⟨_, rfl⟩
    have hsz3 : 0 ≤ sz ∧ sz + (xm : Int) ≤ 1099511627776 + (k : Int) ∧ sz + (xm : Int) ≤ 1099511627776 + 1099511627776 := by
      rw [← hsz2]; unfold sizF; omega
    have hsz4 : sz + (xm : Int) = sizF k (((pre ++ [((.slice Ax xb.length cx : Value), xb, xm)] : List Fx)).map (·.2)) := by
      rw [← hsz2]; unfold sizF; simp; omega
    rw [hsz2] at hS
    have HSZ := Lib.hid hsz4
    obtain ⟨AL, cL, rfl⟩ := aPl.slice hS.rot4
    have hxb : xb.length ≤ big := by have h1 : xb.length ≤ rest.length := (unframe_le hun).2.2; have := hbs.2; omega
    have hM : (pre.map (·.2.1)).length + 1 ≤ 1099511627776 := by rw [List.length_map]; omega
    obtain ⟨A5, c5, w8, hrun, hS8, hK8⟩ := St.plAppendK (ty := 65) hS.rot4 hxb hM
    obtain ⟨pl, hpl⟩ : ∃ pl, (pre.map (·.2.1)).length = pl := ⟨_, rfl⟩
    rw [hpl] at hS hrun hS8
    have m2 := (aBlk.get hS.rot3).cell 2
    have m3 := (aBlk.get hS.rot3).cell 3
    have n2 := (aBlk.get hS8.rot3).cell 2
    have n3 := (aBlk.get hS8.rot3).cell 3
    have f2 := (aBlk.get hS8.rot3).frozen 2
    have f3 := (aBlk.get hS8.rot3).frozen 3
    simp at m2 m3 n2 n3
    have h2 := aBlk.set (aBlk.set hS8.rot3 2 (.slice A5 (pl + 1) c5)) 3 (.int .i64 (sz + (xm : Int)))
    have H2 := Lib.hid h2
    have HK := Lib.hid (hK8.trans ((KeepsOthers.setCell w8 ⟨w1.heap.size, 2, none⟩ (.slice A5 (pl + 1) c5)).trans (KeepsOthers.setCell _ ⟨w1.heap.size, 3, none⟩ (.int .i64 (sz + (xm : Int))))))
    have HFR := Lib.hid hfr
    have HUN := Lib.hid hun
    have HBS := Lib.hid hbs
    obtain ⟨hsz5, hsz6, hsz7⟩ := hsz3
    clear hfr hun hbs hsum hsz2 hsz4 hS hS8 hK8 hpl h2 hsz hbl
    gi_wp2_with (first
      | (gi_at_builtin; refine wpListIn_append_run rfl (.tmp 34) (.tmp 36) 65 rfl rfl rfl hrun ?_))
    refine ⟨HK.out, pre, (_, xb, xm), rest, A', c', _, rfl, HRE.out, HFR.out, HUN.out, HBS.out, ⟨.slice A5 (pl + 1) c5, rfl⟩, ?_⟩
    have h3 := H2.out.rot3
    rw [← HSZ.out, List.map_append]
    exact h3
  case done =>
    rintro D xs W hD hX ⟨rest, A', c', L, hre, hfr, hbs, ⟨vL, rfl⟩, hS⟩ hK
    obtain ⟨AL, cL, rfl⟩ := aPl.slice hS.rot3
    have m0 := (aBlk.get hS.swap).cell 0
    have m1 := (aBlk.get hS.swap).cell 1
    have m2 := (aBlk.get hS.swap).cell 2
    have m3 := (aBlk.get hS.swap).cell 3
    have z0 := (aBlk.get hS.rot4).cell 0
    have z1 := (aBlk.get hS.rot4).cell 1
    have z2 := (aBlk.get hS.rot4).cell 2
    have z3 := (aBlk.get hS.rot4).cell 3
    have f0 := (aBlk.get hS.rot4).frozen 0
    have f1 := (aBlk.get hS.rot4).frozen 1
    have f2 := (aBlk.get hS.rot4).frozen 2
    have f3 := (aBlk.get hS.rot4).frozen 3
    simp at m1 m2 m3 z1 z2 z3
    simp only [List.getElem?_toArray, List.getElem?_cons_zero] at m0 z0
    have HX := Lib.hid hX
    have HS := Lib.hid hS
    obtain ⟨sz, hsz2⟩ : ∃ sz, sizF k (xs.map (·.2)) = sz := ⟨_, rfl⟩
    have HSZ := Lib.hid hsz2
    rw [hsz2] at m3
    have HD := Lib.hid hK
    clear hre hfr hbs hS hX hsz2
    gi_wp2
    have h4 := aBlk.set (aBlk.set (aBlk.set (aBlk.set HS.out.rot4 0 (.int .i64 n)) 1 (.int .i64 (f : Int))) 2 (.slice AL xs.length cL)) 3 (.int .i64 sz)
    have hk4 := ((((KeepsOthers.setCell W ⟨w.heap.size, 0, none⟩ (.int .i64 n)).trans (KeepsOthers.setCell _ ⟨w.heap.size, 1, none⟩ (.int .i64 (f : Int)))).trans (KeepsOthers.setCell _ ⟨w.heap.size, 2, none⟩ (.slice AL xs.length cL))).trans (KeepsOthers.setCell _ ⟨w.heap.size, 3, none⟩ (.int .i64 sz))).same D _ HD.out rfl
    have h5 := h4.putObj (.deferred none) (cel_cons (aBlk.cel _ _ _) (cel_cons (aBlk.cel _ _ _) (cel_cons (aBlk.cel _ _ _) (cel_cons (aPl.cel _ _) (by simp))))) (by omega) hk4 rfl
    refine ⟨by simp, .inl ⟨_, _, rfl, run_takeDeferred hk4, ?_⟩⟩
    have hg := aBlk.get h5
    have hl := run_loadVar_row (P := Tryz.prog) _ _ _ 67 _ _ _ hg Tryz.underlying67 rfl (by kernel_rfl)
    refine ⟨.tuple #[.agg #[.int .i64 n, .int .i64 (f : Int), .slice AL xs.length cL, .int .i64 sz], .bool true], ?_, .slice AL xs.length cL, ?_, ?_⟩
    · rw [results_cell_tmp rfl]
      show ((asAddr (.pointer (some ⟨w.heap.size, 0, none⟩))).run Tryz.prog _).andThen _ = _
      simp only [asAddr, Sem.run_pure, Result.andThen]
      rw [hl]
      rfl
    · rw [HX.out, HSZ.out]
    · have := h5.drop.drop.drop
      rw [List.length_map] at this
      rw [HX.out, List.map_map]
      exact this
end
end Go.Proofs.YtoikjgcggmemaaaGreatDoor

/- Bursts of at most 32 bits, in plain Lean: behind one no frame is whole. No program here. -/
namespace Go.Proofs.YtoikjgcggmemaaaGreatDoor
open Go.RowKit
set_option linter.unusedVariables false

theorem crcStep_xor (a b : BitVec 32) : crcStep (a ^^^ b) = crcStep a ^^^ crcStep b := by
  unfold crcStep
  rw [BitVec.getLsbD_xor, BitVec.ushiftRight_xor_distrib]
  cases a.getLsbD 0 <;> cases b.getLsbD 0 <;> simp
  · rw [BitVec.xor_assoc]
  · rw [BitVec.xor_assoc, BitVec.xor_assoc, BitVec.xor_comm crcP]
  · rw [BitVec.xor_assoc, ← BitVec.xor_assoc crcP, BitVec.xor_comm crcP, BitVec.xor_assoc, BitVec.xor_self, BitVec.xor_zero]
theorem crcIt_xor : ∀ (k : Nat) (a b : BitVec 32), crcIt k (a ^^^ b) = crcIt k a ^^^ crcIt k b
  | 0, _, _ => rfl
  | k + 1, a, b => by rw [crcIt, crcStep_xor, crcIt_xor k]; rfl
theorem crcStep_ne {d : BitVec 32} (h : d ≠ 0) : crcStep d ≠ 0 := by
  intro e
  apply h
  unfold crcStep at e
  split at e
  · have e2 : d >>> 1 = crcP := by
      have := congrArg (· ^^^ crcP) e
      simp only [BitVec.xor_assoc, BitVec.xor_self, BitVec.xor_zero] at this
      rw [this]; rfl
    have h1 : (d >>> 1).toNat = crcP.toNat := by rw [e2]
    rw [BitVec.toNat_ushiftRight, Nat.shiftRight_eq_div_pow] at h1
    have h2 := d.isLt
    have h3 : crcP.toNat = 3988292384 := rfl
    omega
  · rename_i h0
    rw [lsb_mod] at h0
    have h1 : (d >>> 1).toNat = 0 := by rw [e]; rfl
    rw [BitVec.toNat_ushiftRight, Nat.shiftRight_eq_div_pow] at h1
    apply BitVec.eq_of_toNat_eq
    show d.toNat = 0
    simp at h0
    omega
theorem crcIt_ne : ∀ (k : Nat) {d : BitVec 32}, d ≠ 0 → crcIt k d ≠ 0
  | 0, _, h => h
  | k + 1, _, h => by rw [crcIt]; exact crcIt_ne k (crcStep_ne h)
theorem crcIt_inj {k : Nat} {a b : BitVec 32} (h : crcIt k a = crcIt k b) : a = b := by
  rcases Classical.em (a = b) with e | e
  · exact e
  · have : a ^^^ b ≠ 0 := by
      intro h2
      apply e
      have := congrArg (· ^^^ b) h2
      simp only [BitVec.xor_assoc, BitVec.xor_self, BitVec.xor_zero] at this
      rw [this]; simp
    have h3 := crcIt_ne k this
    rw [crcIt_xor, h, BitVec.xor_self] at h3
    exact absurd rfl h3
theorem crcIt_add : ∀ (i k : Nat) (d : BitVec 32), crcIt (i + k) d = crcIt k (crcIt i d)
  | 0, k, d => by rw [Nat.zero_add]; rfl
  | i + 1, k, d => by rw [show i + 1 + k = (i + k) + 1 by omega, crcIt, crcIt_add i k]; rfl
theorem crcStep_shl {i : Nat} (h : i + 1 < 32) : crcStep (1#32 <<< (i + 1)) = 1#32 <<< i := by
  unfold crcStep
  rw [if_neg (by simp)]
  apply BitVec.eq_of_getLsbD_eq
  intro j hj
  simp only [BitVec.getLsbD_ushiftRight, BitVec.getLsbD_shiftLeft]
  rw [show (1 + j - (i + 1)) = j - i by omega]
  by_cases h1 : j < i
  · simp [h1, show 1 + j < i + 1 by omega]
  · have : ¬ 1 + j < i + 1 := by omega
    by_cases h2 : 1 + j < 32
    · simp [h1, this, h2, hj]
    · have hj31 : j = 31 := by omega
      subst hj31
      simp [h1, this]
      omega
theorem crcIt_shl : ∀ (i : Nat), i < 32 → crcIt i (1#32 <<< i) = 1#32
  | 0, _ => by simp [crcIt]
  | i + 1, h => by rw [crcIt, crcStep_shl h, crcIt_shl i (by omega)]
theorem crcByte_lin (a d : BitVec 32) (x : UInt8) : crcByte (a ^^^ d) x = crcByte a x ^^^ crcIt 8 d := by
  unfold crcByte
  rw [← crcIt_xor]
  congr 1
  rw [BitVec.xor_assoc, BitVec.xor_comm d, ← BitVec.xor_assoc]
theorem crcL_lin (d : BitVec 32) : ∀ (l : List UInt8) (a : BitVec 32), crcL (a ^^^ d) l = crcL a l ^^^ crcIt (8 * l.length) d := by
  intro l
  induction l generalizing d with
  | nil => intro a; rfl
  | cons x t ih =>
    intro a
    show crcL (crcByte (a ^^^ d) x) t = crcL (crcByte a x) t ^^^ _
    rw [crcByte_lin, ih, ← crcIt_add]
    congr 2
    simp; omega
theorem crcL_app (r : BitVec 32) (l k : List UInt8) : crcL r (l ++ k) = crcL (crcL r l) k := by unfold crcL; rw [List.foldl_append]
/-- one bit turned -/
def flip (l : List UInt8) (k : Nat) : List UInt8 := l.set (k / 8) (l.getD (k / 8) 0 ^^^ UInt8.ofNat (2 ^ (k % 8)))
theorem flip_len (l : List UInt8) (k : Nat) : (flip l k).length = l.length := by simp [flip]
theorem flip_cons0 {x : UInt8} {t : List UInt8} {k : Nat} (h : k < 8) : flip (x :: t) k = (x ^^^ UInt8.ofNat (2 ^ k)) :: t := by
  unfold flip
  rw [Nat.div_eq_of_lt h, Nat.mod_eq_of_lt h]
  rfl
theorem flip_cons1 {x : UInt8} {t : List UInt8} {k : Nat} (h : ¬ k < 8) : flip (x :: t) k = x :: flip t (k - 8) := by
  obtain ⟨j, rfl⟩ : ∃ j, k = j + 8 := ⟨k - 8, by omega⟩
  unfold flip
  rw [Nat.add_sub_cancel, Nat.add_div_right _ (by omega), Nat.add_mod_right]
  simp
theorem u8bit (x : UInt8) {k : Nat} (h : k < 8) : BitVec.ofNat 32 (x ^^^ UInt8.ofNat (2 ^ k)).toNat = BitVec.ofNat 32 x.toNat ^^^ (1#32 <<< k) := by
  have hx := x.toNat_lt
  have h2 : 2 ^ k < 256 := Nat.lt_of_lt_of_le (Nat.pow_lt_pow_right (by omega) h) (by decide)
  apply BitVec.eq_of_toNat_eq
  rw [BitVec.toNat_xor, BitVec.toNat_ofNat, BitVec.toNat_ofNat, BitVec.toNat_shiftLeft, UInt8.toNat_xor, UInt8.toNat_ofNat', Nat.mod_eq_of_lt (a := 2 ^ k) h2, Nat.mod_eq_of_lt (a := x.toNat) (by omega)]
  have h3 : x.toNat ^^^ 2 ^ k < 2 ^ 8 := Nat.xor_lt_two_pow (by omega) (by omega)
  rw [Nat.mod_eq_of_lt (by omega), show (1#32).toNat = 1 from rfl, Nat.shiftLeft_eq, Nat.one_mul, Nat.mod_eq_of_lt (a := 2 ^ k) (by omega)]
theorem crc_flip : ∀ (l : List UInt8) (k : Nat) (r : BitVec 32), k < 8 * l.length → crcL r (flip l k) = crcL r l ^^^ crcIt (8 * l.length - k) 1#32
  | [], k, r, h => by simp at h
  | x :: t, k, r, h => by
    by_cases hk : k < 8
    · rw [flip_cons0 hk]
      show crcL (crcByte r (x ^^^ UInt8.ofNat (2 ^ k))) t = crcL (crcByte r x) t ^^^ _
      have e : crcByte r (x ^^^ UInt8.ofNat (2 ^ k)) = crcByte r x ^^^ crcIt (8 - k) 1#32 := by
        unfold crcByte
        rw [u8bit x hk, ← BitVec.xor_assoc, crcIt_xor]
        congr 1
        conv => lhs; rw [show 8 = k + (8 - k) by omega]
        rw [crcIt_add, crcIt_shl k (by omega)]
      rw [e, crcL_lin, ← crcIt_add]
      congr 2
      simp; omega
    · rw [flip_cons1 hk]
      show crcL (crcByte r x) (flip t (k - 8)) = crcL (crcByte r x) t ^^^ _
      rw [crc_flip t (k - 8) _ (by simp at h; omega)]
      congr 2
      simp; omega
/-- is bit i turned? -/
def hitB (N first : Nat) (bs : BitVec 32) (i : Nat) : Bool := decide (first + i < N) && bs.getLsbD i
/-- the bytes behind q bits of a burst -/
def flips (l : List UInt8) (first : Nat) (bs : BitVec 32) : Nat → List UInt8
  | 0 => l
  | q + 1 => if hitB (8 * l.length) first bs q then flip (flips l first bs q) (first + q) else flips l first bs q
/-- the bits turned -/
def accD (N first : Nat) (bs : BitVec 32) : Nat → BitVec 32
  | 0 => 0#32
  | q + 1 => if hitB N first bs q then accD N first bs q ^^^ (1#32 <<< q) else accD N first bs q
def turnedF (N first : Nat) (bs : BitVec 32) : Nat → Bool
  | 0 => false
  | q + 1 => if hitB N first bs q then true else turnedF N first bs q
theorem flips_len (l : List UInt8) (first : Nat) (bs : BitVec 32) : ∀ q, (flips l first bs q).length = l.length
  | 0 => rfl
  | q + 1 => by
    unfold flips
    split
    · rw [flip_len, flips_len l first bs q]
    · exact flips_len l first bs q
theorem crc_flips (l : List UInt8) (first : Nat) (bs : BitVec 32) (r : BitVec 32) : ∀ q, q ≤ 32 → crcL r (flips l first bs q) = crcL r l ^^^ crcIt (8 * l.length - first) (accD (8 * l.length) first bs q)
  | 0, _ => by
    have : ∀ k, crcIt k 0#32 = 0#32 := fun k => by
      induction k with
      | zero => rfl
      | succ k ih => rw [crcIt]; exact ih
    simp [flips, accD, this]
  | q + 1, hq => by
    unfold flips accD
    by_cases hh : hitB (8 * l.length) first bs q = true
    · have hlt : first + q < 8 * l.length := by
        unfold hitB at hh
        rw [Bool.and_eq_true, decide_eq_true_eq] at hh
        exact hh.1
      rw [if_pos hh, if_pos hh, crc_flip _ _ _ (by rw [flips_len]; exact hlt), flips_len, crc_flips l first bs r q (by omega), crcIt_xor, BitVec.xor_assoc]
      congr 2
      conv => rhs; rw [show 8 * l.length - first = q + (8 * l.length - (first + q)) by omega]
      rw [crcIt_add, crcIt_shl q (by omega)]
    · rw [if_neg hh, if_neg hh]
      exact crc_flips l first bs r q (by omega)
theorem accD_bit (N first : Nat) (bs : BitVec 32) : ∀ q, q ≤ 32 → ∀ i, i < 32 → (accD N first bs q).getLsbD i = (decide (i < q) && hitB N first bs i)
  | 0, _, i, hi => by simp [accD]
  | q + 1, hq, i, hi => by
    have ih := accD_bit N first bs q (by omega) i hi
    have hs : (1#32 <<< q).getLsbD i = decide (i = q) := by
      rw [BitVec.getLsbD_shiftLeft]
      by_cases h1 : i < q
      · simp [h1, show ¬ i = q by omega]
      · by_cases h2 : i = q
        · subst h2; simp [hi]
        · have h3 : i - q ≠ 0 := by omega
          simp [h1, h2, hi, h3]
    unfold accD
    by_cases hh : hitB N first bs q = true
    · rw [if_pos hh, BitVec.getLsbD_xor, ih, hs]
      by_cases h2 : i = q
      · subst h2; simp [hh]
      · have : (decide (i < q + 1)) = decide (i < q) := by
          by_cases h3 : i < q
          · simp [h3, show i < q + 1 by omega]
          · simp [h3, show ¬ i < q + 1 by omega]
        simp [h2, this]
    · rw [if_neg hh, ih]
      by_cases h2 : i = q
      · subst h2; simp at hh; simp [hh]
      · have : (decide (i < q + 1)) = decide (i < q) := by
          by_cases h3 : i < q
          · simp [h3, show i < q + 1 by omega]
          · simp [h3, show ¬ i < q + 1 by omega]
        simp [this]
theorem turned_some {N first : Nat} {bs : BitVec 32} : ∀ {q : Nat}, turnedF N first bs q = true → ∃ i, i < q ∧ hitB N first bs i = true
  | 0, h => by simp [turnedF] at h
  | q + 1, h => by
    unfold turnedF at h
    split at h
    · rename_i hh; exact ⟨q, by omega, hh⟩
    · obtain ⟨i, h1, h2⟩ := turned_some h; exact ⟨i, by omega, h2⟩
theorem turned_none {l : List UInt8} {first : Nat} {bs : BitVec 32} : ∀ {q : Nat}, turnedF (8 * l.length) first bs q = false → flips l first bs q = l
  | 0, _ => rfl
  | q + 1, h => by
    unfold turnedF at h
    split at h
    · cases h
    · rename_i hh
      unfold flips
      rw [if_neg hh]
      exact turned_none h
theorem turned_ne {N first : Nat} {bs : BitVec 32} (h : turnedF N first bs 32 = true) : accD N first bs 32 ≠ 0 := by
  obtain ⟨i, h1, h2⟩ := turned_some h
  intro e
  have := accD_bit N first bs 32 (Nat.le_refl _) i h1
  rw [e, h2] at this
  simp [h1] at this
/-! the sum of a whole frame -/
theorem refIt_mod : ∀ (k : Nat) (r : BitVec 32) (c : Nat), refIt k r (c % 2 ^ k) = refIt k r c
  | 0, _, _ => rfl
  | k + 1, r, c => by
    have h1 : c % 2 ^ (k + 1) % 2 = c % 2 := by
      rw [Nat.pow_succ, Nat.mul_comm, Nat.mod_mul_right_mod]
    have h2 : c % 2 ^ (k + 1) / 2 = c / 2 % 2 ^ k := by
      rw [Nat.pow_succ, Nat.mul_comm, Nat.mod_mul_right_div_self]
    have h3 : refR r (c % 2 ^ (k + 1)) = refR r c := by unfold refR; rw [h1]
    rw [refIt, refIt, h2, h3, refIt_mod k]
theorem byte_step (r : BitVec 32) (n : Nat) (h : n < 2 ^ 32) : crcIt 8 (r ^^^ BitVec.ofNat 32 n) = crcByte r (UInt8.ofNat (n % 256)) ^^^ BitVec.ofNat 32 (n / 256) := by
  rw [ref_it 8 r n h, ← refIt_mod 8, ← ref_byte]
  congr 2
  rw [UInt8.toNat_ofNat']
  omega
theorem le4_word (s c : BitVec 32) : crcL c (le4 s) = crcIt 32 (c ^^^ s) := by
  have hs := s.isLt
  have e : s = BitVec.ofNat 32 s.toNat := by simp
  have h0 := byte_step c s.toNat hs
  rw [← e] at h0
  have e32 : ∀ d, crcIt 32 d = crcIt 8 (crcIt 8 (crcIt 8 (crcIt 8 d))) := fun d => by
    rw [← crcIt_add, ← crcIt_add, ← crcIt_add]
  show crcByte (crcByte (crcByte (crcByte c _) _) _) _ = _
  rw [e32, h0, byte_step _ _ (by omega), byte_step _ _ (by omega), byte_step _ _ (by omega)]
  rw [show s.toNat / 256 / 256 / 256 / 256 = 0 by omega, show s.toNat / 256 / 256 = s.toNat / 65536 by omega, show s.toNat / 65536 / 256 = s.toNat / 16777216 by omega, show s.toNat / 16777216 % 256 = s.toNat / 16777216 by omega]
  simp
theorem crc_whole (x : List UInt8) : crcL crcOne (x ++ le4 (sumF x)) = crcIt 32 crcOne := by
  rw [crcL_app, le4_word]
  unfold sumF
  congr 1
  generalize crcL crcOne x = c
  rw [show ~~~ c = crcOne ^^^ c from BitVec.allOnes_xor.symm, BitVec.xor_comm, BitVec.xor_assoc, BitVec.xor_self, BitVec.xor_zero]
theorem frame_eq (b : List UInt8) : frameF b = enc b.length ++ (b ++ le4 (sumF (bodyF b))) := by simp [frameF, bodyF]
/-- behind a burst a frame is no more whole -/
theorem frame_flips {b rest : List UInt8} {first : Nat} {bs : BitVec 32} (hb : b.length ≤ 524288) (h : turnedF (8 * (b.length + 4)) first bs 32 = true) :
    unframeF (enc b.length ++ flips (b ++ le4 (sumF (bodyF b))) first bs 32 ++ rest) = none := by
  obtain ⟨W, hW⟩ : ∃ W, b ++ le4 (sumF (bodyF b)) = W := ⟨_, rfl⟩
  have hWl : W.length = b.length + 4 := by rw [← hW]; simp [le4]
  have h0 := crc_whole (bodyF b)
  have e0 : bodyF b ++ le4 (sumF (bodyF b)) = enc b.length ++ W := by rw [← hW]; simp [bodyF]
  rw [e0, crcL_app] at h0
  have h1 := crc_flips W first bs (crcL crcOne (enc b.length)) 32 (Nat.le_refl _)
  have hl := flips_len W first bs 32
  rw [hW]
  rw [← hWl] at h
  obtain ⟨V, hV⟩ : ∃ V, flips W first bs 32 = V := ⟨_, rfl⟩
  rw [hV] at h1 hl ⊢
  have hne := crcIt_ne (8 * W.length - first) (turned_ne h)
  have hx : (V.take b.length).length = b.length := by rw [List.length_take]; omega
  have hs : (V.drop b.length).length = 4 := by rw [List.length_drop]; omega
  have hVe : V.take b.length ++ V.drop b.length = V := List.take_append_drop _ _
  generalize V.take b.length = x at *
  generalize V.drop b.length = s at *
  subst hVe
  have e2 : bytesS (enc b.length ++ (x ++ s) ++ rest) 0 524288 = (x, s ++ rest, 0) := by
    rw [← hx, show enc x.length ++ (x ++ s) ++ rest = enc x.length ++ x ++ (s ++ rest) by simp]
    exact bytesS_put (by omega) (by omega)
  have e3 : takeS (s ++ rest) 0 4 = (s, rest, 0) := by have := takeS_put (x := s) (rest := rest); rw [hs] at this; exact this
  have e4 : (enc b.length ++ (x ++ s) ++ rest).length - (s ++ rest).length = (enc b.length ++ x).length := by simp; omega
  have e5 : (enc b.length ++ (x ++ s) ++ rest).take (enc b.length ++ x).length = enc b.length ++ x := by
    rw [show enc b.length ++ (x ++ s) ++ rest = (enc b.length ++ x) ++ (s ++ rest) by simp, List.take_left]
  unfold unframeF
  rw [e2]
  simp only
  rw [e3, if_neg (by simp), e4, e5]
  rw [if_neg]
  intro e
  have h6 := crc_whole (enc b.length ++ x)
  have e7 : s = le4 (sumF (enc b.length ++ x)) := by simpa using e
  rw [← e7, List.append_assoc, crcL_app, h1, h0] at h6
  apply hne
  have := congrArg (crcIt 32 crcOne ^^^ ·) h6
  simp only [← BitVec.xor_assoc, BitVec.xor_self, BitVec.zero_xor] at this
  exact this
end Go.Proofs.YtoikjgcggmemaaaGreatDoor

/- A log's first segment begun: begins. -/
namespace Go.Proofs.YtoikjgcggmemaaaGreatDoor
open Go.RowKit Go.Deep Go.Maps
set_option linter.unusedVariables false

theorem Rd.four (w : World) (x y z u : Value) (t : TypeId) : Rd (w.alloc (.cells #[x, y, z, u] t)) (.slice (some ⟨w.heap.size, 0, none⟩) 1 1) 1 4 [x, y, z, u] := by
  refine ⟨rfl, _, _, rfl, fun e => (by cases e), Nat.le_refl _, fun ad had => ?_⟩
  cases had
  have hk := Blk.new w t #[x, y, z, u]
  refine ⟨fun _ => hk.lt, fun j u' hu => ?_⟩
  have ea : (⟨w.heap.size, 0, none⟩ : Addr).add j = ⟨w.heap.size, j, none⟩ := by unfold Addr.add; split <;> simp_all
  rw [ea, hk.cell, ← hu]
  simp
theorem infoSeg : (Tryz.prog.info? 67).map (fun i => (i.zero, i.size, i.bytes)) = some (some (.agg #[.int .i64 0, .int .i64 0, .slice none 0 0, .int .i64 0]), 4, 48) := by kernel_rfl
/-- a segment's head, of a first record below 128 -/
def headF (k : Nat) : List UInt8 := frameF (enc k)
theorem head1_len : (headF 1).length = 6 := by
  have : enc 1 = [1] := by rw [enc_lt (by omega)]; rfl
  unfold headF
  rw [this]
  unfold frameF bodyF
  rw [show ([1] : List UInt8).length = 1 from rfl, enc_lt (by omega)]
  simp [le4]
def dZero : Dk := ⟨[], 1000, false⟩
def dOne (n : List UInt8) (b : List UInt8) (s : Nat) : Dk := ⟨[⟨file1 n, b, s⟩], 1000, false⟩
theorem file1_ne (n : List UInt8) : file1 n ≠ [] := by simp [file1]
theorem bg0 (n : List UInt8) : createF dZero (file1 n) = (0, dOne n [] 0) := by
  unfold createF dZero
  rw [if_neg (by simp), if_neg (file1_ne n)]
  rfl
theorem may1 (n b : List UInt8) (s : Nat) : mayF (dOne n b s) (file1 n) = (some 0, 0) := by
  unfold mayF dOne
  simp [ixF]
theorem bg1 (n b c : List UInt8) (s : Nat) (h : b.length + c.length ≤ 1000) : appendF (dOne n b s) (file1 n) c = (0, dOne n (b ++ c) s) := by
  unfold appendF
  rw [turn_some (may1 n b s) (f := ⟨file1 n, b, s⟩) rfl]
  rw [if_neg (by simp [dOne, usedF]; omega)]
  rfl
theorem bg2 (n b : List UInt8) (s : Nat) : syncF (dOne n b s) (file1 n) = (0, dOne n b b.length) := by
  unfold syncF
  rw [turn_some (may1 n b s) (f := ⟨file1 n, b, s⟩) rfl]
  rfl
theorem bg3 (n b : List UInt8) (s : Nat) : getF (dOne n b s) (file1 n) = (b, 0) := by
  unfold getF
  rw [may1 n b s]
  rfl
section
variable {W w : World} {p dp : Nat} {X : List Asn} {n : List UInt8} {most : Int}
def lg0 (n : List UInt8) (most : Int) (sure : Int) : Lg := ⟨n, most, sure, 1, 1, 6, []⟩
theorem lg0E (n : List UInt8) (most sure : Int) : LgE (lg0 n most sure) := ⟨by simp [lg0], by simp [lg0], by simp [lg0]⟩
set_option maxRecDepth 20000 in
set_option maxHeartbeats 4000000 in
theorem begins_c (h : St W w (aBlk p 54 #[.pointer (some ⟨dp, 0, none⟩), .string (bstr n), .int .i64 most, .slice none 0 0, .int .i64 0] :: aDisk dp dZero :: X)) (hn : n.length ≤ 4194304) :
    Calls Tryz.prog 23 #[.pointer (some ⟨p, 0, none⟩), .int .i64 1, .int .i64 1] w fun e w' => e = .returned (.int .i64 0) ∧ St W w' (aLg p dp (lg0 n most 0) :: aDisk dp (dOne n (headF 1) 6) :: X) := by
  have hb := aBlk.get h
  have c0 := hb.cell 0
  have c1 := hb.cell 1
  have c3 := hb.cell 3
  simp at c0 c1 c3
  have hfl : (file1 n).length ≤ maxLen := by simp [file1]; unfold maxLen; omega
  have HFL := Lib.hid hfl
  have o4 : ∀ x ∈ [Value.int .i64 1, .int .i64 1, .slice none 0 0, .int .i64 6], x.oneCell' = true := by simp [Value.oneCell']
  have HFI := Lib.hid (fun w' => file_c w' (n := n) (by omega))
  have HCR := Lib.hid (by have := create_c h.swap hfl; rw [bg0] at this; exact this)
  have HPN := Lib.hid (fun w' Y (hS : St W w' Y) => show Calls Tryz.prog 45 #[.slice none 0 0, .int .u64 1] w' fun e w'' => ∃ v, e = .returned v ∧ St W w'' (aBy v (enc 1) :: Y) from hS.fresh (putNum70 (Bs.nil w') 1 (by omega) (by unfold big; simp)))
  have HFR := Lib.hid (fun w' v Y (hS : St W w' (aBy v (enc 1) :: Y)) => frame_yes hS (hS.byBs (by rw [enc_lt (by omega)]; simp [big])) (by rw [enc_lt (by omega)]; simp))
  have H6 := Lib.hid head1_len
  have HBG1 := Lib.hid (by have := bg1 n [] (headF 1) 0 (by rw [head1_len]; simp); simpa using this)
  have HBG2 := Lib.hid (by have := bg2 n (headF 1) 0; rw [head1_len] at this; exact this)
  have HAP := Lib.hid (fun w' v Y (hS : St W w' (aDisk dp (dOne n [] 0) :: aBy v (headF 1) :: Y)) => show Calls Tryz.prog 30 #[.pointer (some ⟨dp, 0, none⟩), .string (bstr (file1 n)), v] w' fun e w'' => e = .returned (.int .i64 0) ∧ St W w'' (aDisk dp (dOne n (headF 1) 0) :: aBy v (headF 1) :: Y) from by
    have := append_c hS HFL.out (hS.swap.byBs (by rw [head1_len]; unfold big; omega)) (by rw [head1_len]; omega)
    rw [HBG1.out] at this
    exact this)
  have HSY := Lib.hid (fun w' Y (hS : St W w' (aDisk dp (dOne n (headF 1) 0) :: Y)) => show Calls Tryz.prog 33 #[.pointer (some ⟨dp, 0, none⟩), .string (bstr (file1 n))] w' fun e w'' => e = .returned (.int .i64 0) ∧ St W w'' (aDisk dp (dOne n (headF 1) 6) :: Y) from by
    have := sync_c hS HFL.out
    rw [HBG2.out] at this
    exact this)
  have HK8 := Lib.hid (fun (w' : World) (s c7 : Nat) (Y : List Asn) (hS : St W w' (aBlk p 54 #[.pointer (some ⟨dp, 0, none⟩), .string (bstr n), .int .i64 most, .slice none 0 0, .int .i64 0] :: aRow 67 4 (.slice (some ⟨s, 0, none⟩) 1 c7) 1 [.int .i64 1, .int .i64 1, .slice none 0 0, .int .i64 6] :: Y)) =>
    show St W (w'.setCell ⟨p, 3, none⟩ (.slice (some ⟨s, 0, none⟩) 1 c7)) (lgL p dp (lg0 n most 0) s c7 (.slice none 0 0) ++ Y) from by
    have h1 := aBlk.set hS 3 (.slice (some ⟨s, 0, none⟩) 1 c7)
    have h2 := aPl.nil h1
    exact h2.rot3.rot3)
  have H66 := H6
  clear h hb hfl H6
  go_enter Tryz.func23, Tryz.ntmps23
  go_wp2_with (first
    | (go_at_call 31; (with_reducible refine (HFI.out _).mono ?_); rintro e w1 ⟨rfl, rfl⟩)
    | (go_at_call 44; (with_reducible refine HCR.out.mono ?_); rintro e w2 ⟨rfl, hS⟩; have H2 := Lib.hid hS; have k0 := hS.cellOf (g := p) (t := 54) (cs := #[.pointer (some ⟨dp, 0, none⟩), .string (bstr n), .int .i64 most, .slice none 0 0, .int .i64 0]) (by simp) 0; simp only [List.getElem?_toArray, List.getElem?_cons_zero] at k0; clear hS)
    | (go_at_call 45; (with_reducible refine (HPN.out _ _ H2.out).mono ?_); rintro e w3 ⟨v3, rfl, hS⟩; have H3 := Lib.hid hS; clear hS)
    | (go_at_call 28; (with_reducible refine (HFR.out _ _ _ H3.out).mono ?_); rintro e w4 ⟨v4, rfl, hS⟩; obtain ⟨A4, c4, hv⟩ := hS.bySlice; rw [show (frameF (enc 1)).length = 6 from H66.out] at hv; subst hv; have H4 := Lib.hid (show St W w4 (aBy (.slice A4 6 c4) (headF 1) :: _) from hS); have k40 := hS.cellOf (g := p) (t := 54) (cs := #[.pointer (some ⟨dp, 0, none⟩), .string (bstr n), .int .i64 most, .slice none 0 0, .int .i64 0]) (by simp) 0; simp only [List.getElem?_toArray, List.getElem?_cons_zero] at k40; clear hS)
    | (go_at_call 30; (with_reducible refine (HAP.out _ _ _ H4.out.rot3).mono ?_); rintro e w5 ⟨rfl, hS⟩; have H5 := Lib.hid hS; have k50 := hS.cellOf (g := p) (t := 54) (cs := #[.pointer (some ⟨dp, 0, none⟩), .string (bstr n), .int .i64 most, .slice none 0 0, .int .i64 0]) (by simp) 0; simp only [List.getElem?_toArray, List.getElem?_cons_zero] at k50; clear hS)
    | (go_at_call 33; (with_reducible refine (HSY.out _ _ H5.out).mono ?_); rintro e w6 ⟨rfl, hS⟩; have H6 := Lib.hid hS; have k63 := hS.cellOf (g := p) (t := 54) (cs := #[.pointer (some ⟨dp, 0, none⟩), .string (bstr n), .int .i64 most, .slice none 0 0, .int .i64 0]) (by simp) 3; simp only [List.getElem?_toArray, List.getElem?_cons_succ, List.getElem?_cons_zero] at k63; clear hS)
    | (at_builtin; refine wpList_append_St rfl (.tmp 64) (.tmp 70) 52 rfl Tryz.underlying52 infoSeg rfl (by decide) rfl rfl ((H6.out.later (B.alloc' _ _)).rowNil 67 4) (Rd.four _ _ _ _ _ _) o4 (by unfold maxLen; omega) (by omega) ?_; intro A7 c7 w7 hS; simp only [Nat.zero_add, List.nil_append] at hS; simp only [Nat.zero_add]; obtain ⟨s, rfl⟩ := hS.rowNSome (by omega); have H8 := Lib.hid (HK8.out _ _ _ _ hS.rot5); have k73 := (aBlk.get hS.rot5).cell 3; have f73 := (aBlk.get hS.rot5).frozen 3; simp at k73; clear hS)
    | (go_at_call 13; (with_reducible refine (Llast_o H8.out (lg0E n most 0)).mono ?_); rintro e w9 ⟨rfl, hb⟩; rw [show lastF (lg0 n most 0) = 0 from rfl]; have H9 := Lib.hid (H8.out.later hb); have k94 := (lgL.cells H9.out).2.2.2.2.1; have f94 := (aBlk.get H9.out).frozen 4; clear hb))
  go_ret
  have h9 := aBlk.set H9.out 4 (.int .i64 0)
  refine ⟨rfl, ?_⟩
  have h10 : St W _ (lgL p dp (lg0 n most 0) s c7 (.slice none 0 0) ++ (aDisk dp (dOne n (headF 1) 6) :: aBy (.slice A4 6 c4) (headF 1) :: aBy v3 (enc 1) :: X)) := h9
  exact (aLg.shut (lg0E n most 0) h10).rot3.drop.rot3.drop
end
end Go.Proofs.YtoikjgcggmemaaaGreatDoor

/- Open on a disk without files. -/
namespace Go.Proofs.YtoikjgcggmemaaaGreatDoor
open Go.RowKit Go.Deep Go.Maps
set_option linter.unusedVariables false

section
variable {W w : World} {p dp : Nat} {X : List Asn} {n : List UInt8} {most : Int} {d : Dk}
theorem usedD_c (h : St W w (aDisk p d :: X)) : Calls Tryz.prog 63 #[.pointer (some ⟨p, 0, none⟩)] w fun e w' => e = .returned (.int .i64 (usedF d.R : Int)) ∧ B w w' := by
  obtain ⟨m, E, hE, h⟩ := aDisk.open_ h
  exact used_c h hE
theorem offD_c (h : St W w (aDisk p d :: X)) : Calls Tryz.prog 20 #[.pointer (some ⟨p, 0, none⟩)] w fun e w' => e = .returned (.bool d.off) ∧ w = w' := by
  obtain ⟨m, E, hE, h⟩ := aDisk.open_ h
  exact off_c (dkL.blk h)
set_option maxRecDepth 20000 in
set_option maxHeartbeats 4000000 in
theorem open0_bad (h : St W w (aDisk dp dZero :: X)) (hm : mayN n most = false) :
    Calls Tryz.prog 5 #[.pointer (some ⟨dp, 0, none⟩), .string (bstr n), .int .i64 most] w fun e w' => e = .returned (.tuple #[.pointer none, .int .i64 1]) ∧ St W w' (aDisk dp dZero :: X) := by
  have HC := Lib.hid (clone_c h (fun f hf => by cases hf))
  have HM := Lib.hid (fun w' => may_c w' (n := n) (m := most))
  rw [hm] at HM
  clear h hm
  go_enter Tryz.func5, Tryz.ntmps5
  go_wp2_with (first
    | (go_at_call 19; (with_reducible refine HC.out.mono ?_); rintro e w1 ⟨c, rfl, hS⟩; have H1 := Lib.hid hS.drop; clear hS)
    | (go_at_call 20; (with_reducible refine (offD_c H1.out).mono ?_); rintro e w2 ⟨rfl, rfl⟩; rw [show dZero.off = false from rfl])
    | (go_at_call 21; (with_reducible refine (HM.out _).mono ?_); rintro e w3 ⟨rfl, hb⟩; have H3 := Lib.hid (H1.out.later hb); clear hb))
  go_ret2
  exact ⟨rfl, H3.out⟩
set_option maxRecDepth 20000 in
set_option maxHeartbeats 4000000 in
theorem open0_c (h : St W w (aDisk dp dZero :: X)) (hm : mayN n most = true) (hn : n.length ≤ 4194304) :
    Calls Tryz.prog 5 #[.pointer (some ⟨dp, 0, none⟩), .string (bstr n), .int .i64 most] w fun e w' => ∃ p, e = .returned (.tuple #[.pointer (some ⟨p, 0, none⟩), .int .i64 0]) ∧ St W w' (aLg p dp (lg0 n most 0) :: aDisk dp (dOne n (headF 1) 6) :: X) := by
  have HC := Lib.hid (clone_c h (fun f hf => by cases hf))
  have HM := Lib.hid (fun w' => may_c w' (n := n) (m := most))
  have HNL := Lib.hid hn
  rw [hm] at HM
  clear h hm hn
  go_enter Tryz.func5, Tryz.ntmps5
  go_wp2_with (first
    | (go_at_call 19; (with_reducible refine HC.out.mono ?_); rintro e w1 ⟨c, rfl, hS⟩; have H1 := Lib.hid hS.drop; clear hS)
    | (go_at_call 20; (with_reducible refine (offD_c H1.out).mono ?_); rintro e w2 ⟨rfl, rfl⟩; rw [show dZero.off = false from rfl])
    | (go_at_call 21; (with_reducible refine (HM.out _).mono ?_); rintro e w3 ⟨rfl, hb⟩; have H3 := Lib.hid (aBlk.new (H1.out.later hb) 54 #[.pointer (some ⟨dp, 0, none⟩), .string (bstr n), .int .i64 most, .slice none 0 0, .int .i64 0]); clear hb)
    | (go_at_call 22; (with_reducible refine (numbers0 H3.out.swap rfl).mono ?_); rintro e w4 ⟨rfl, hS⟩; have H4 := Lib.hid hS.swap; clear hS)
    | (go_at_call 23; (with_reducible refine (begins_c H4.out HNL.out).mono ?_); rintro e w5 ⟨rfl, hS⟩; have H5 := Lib.hid hS; clear hS))
  go_ret2
  exact ⟨_, rfl, H5.out⟩
end
end Go.Proofs.YtoikjgcggmemaaaGreatDoor
