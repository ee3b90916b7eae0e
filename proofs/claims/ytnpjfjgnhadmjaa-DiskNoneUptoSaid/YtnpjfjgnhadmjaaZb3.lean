/- Lemmas and contracts, part 3. -/
import Derived.Test.YtnpjfjgnhadmjaaZb2
import Derived.Deep.Slices
import Derived.Deep.Fields
import Derived.ChangeSame
import Derived.SizedLaws
import Derived.JoinedCond
/- Arguments of the disk's laws opened, where their bulk is bounded: []byte, lists of operations. -/
namespace Go.Proofs.Ytnpjfjgnhadmjaa
open Go.ChangeShapes Go.WideShapes Go.ChangeAt Go.RowKit Go.Deep
set_option linter.unusedVariables false

theorem list_choose {α : Type} {P : Nat → α → Prop} (n : Nat) (h : ∀ i, i < n → ∃ x, P i x) : ∃ L : List α, L.length = n ∧ ∀ i x, L[i]? = some x → P i x := by
  induction n with
  | zero => exact ⟨[], rfl, fun i x hx => by simp at hx⟩
  | succ n ih =>
    obtain ⟨L, hl, hL⟩ := ih (fun i hi => h i (by omega))
    obtain ⟨x, hx⟩ := h n (by omega)
    refine ⟨L ++ [x], by simp [hl], fun i y hy => ?_⟩
    by_cases hi : i < L.length
    · rw [List.getElem?_append_left hi] at hy; exact hL i y hy
    · rw [List.getElem?_append_right (by omega)] at hy
      have : i - L.length = 0 := by
        rcases Nat.eq_zero_or_pos (i - L.length) with e | e
        · exact e
        · rw [List.getElem?_eq_none (by simp; omega)] at hy; cases hy
      rw [this] at hy
      simp at hy
      subst hy
      have : i = n := by omega
      rw [this]; exact hx

theorem addr_add (b off k : Nat) : (⟨b, off, none⟩ : Addr).add k = ⟨b, off + k, none⟩ := by unfold Addr.add; split <;> simp_all
theorem cell_spot {w : World} {a : Addr} {v : Value} (h : w.cell? a = some v) : a = ⟨a.block, a.off, none⟩ := by
  unfold World.cell? at h
  split at h
  · split at h
    · cases h
    · rename_i hs
      cases a with
      | mk b o s => cases s with
        | none => rfl
        | some x => simp at hs
  · cases h

theorem bulk_one {H : Type} (d : DataW H) : 1 ≤ Rows.uptoBulk d := by
  cases d with
  | lit l => cases l <;> simp [Rows.uptoBulk]
  | nil => simp [Rows.uptoBulk]
  | ptr d => simp [Rows.uptoBulk]
  | slice elems spare => simp [Rows.uptoBulk]
  | agg parts => simp [Rows.uptoBulk]
  | iface t d => simp [Rows.uptoBulk]
  | map entries => simp [Rows.uptoBulk]
  | held h => simp [Rows.uptoBulk]
theorem bulk_len {H : Type} (l : List (DataW H)) : l.length ≤ Rows.uptoBulkAll l := by
  induction l with
  | nil => simp [Rows.uptoBulkAll]
  | cons x r ih => have := bulk_one x; simp only [Rows.uptoBulkAll, List.length_cons]; omega
theorem bulk_sum {H α : Type} (f : α → Nat) : ∀ (L : List α) (E : List (DataW H)), L.length = E.length → (∀ (i : Nat) (x : α) (d : DataW H), L[i]? = some x → E[i]? = some d → f x ≤ Rows.uptoBulk d) → (L.map f).sum ≤ Rows.uptoBulkAll E
  | [], [], _, _ => by simp
  | [], _ :: _, h, _ => by simp at h
  | _ :: _, [], h, _ => by simp at h
  | x :: L, d :: E, h, hf => by
    have h0 := hf 0 x d rfl rfl
    have := bulk_sum f L E (by simpa using h) (fun i y c h1 h2 => hf (i + 1) y c (by simpa using h1) (by simpa using h2))
    simp only [List.map_cons, List.sum_cons, Rows.uptoBulkAll]
    omega
theorem bulk_slice {H : Type} (E S : List (DataW H)) : Rows.uptoBulkAll E + Rows.uptoBulkAll S + 1 = Rows.uptoBulk (.slice E S) := by simp only [Rows.uptoBulk]
section
variable {H : Type} {enc : TypeId × Value → H} {P : Program} {w : World} {base : Nat} {held : Bool} {spare : Nat → Bool}
theorem bs_of_trod {fuel : Nat} {t e : TypeId} {c : Value} {x : DataW H × List MemPlace} (ht : P.underlying t = some (.slice e)) (he : P.underlying e = some (.int .u8)) (hC : P.cellsOf e = 1)
    (h : DataW.trod enc P w base spare held fuel t [c] = some x) (hbig : ∀ len cap a, c = .slice a len cap → len ≤ big) : ∃ bs, Bs w c bs := by
  rcases open_slice ht h with ⟨h2, h3⟩ | ⟨a, len, cap, m, n, D, Pl, hcs, hb, hl, hm, hmm, hx, hi⟩
  · simp at h2
    subst h2
    exact ⟨[], Bs.nil w⟩
  · simp at hcs
    subst hcs
    have hlm : len ≤ m := by rw [hmm]; split <;> omega
    obtain ⟨bs, hbl, hbs⟩ := list_choose (P := fun i (b : UInt8) => w.cell? (a.add i) = some (.int .u8 (b.toNat : Int))) len (fun i hil => by
      obtain ⟨cs', hc, htr⟩ := hi i (by omega)
      rw [hC] at hc
      obtain ⟨_, hcl, hcat⟩ := World.cells?_some hc
      obtain ⟨k, rfl, _, hw⟩ := DataW.trod_int he htr
      have hk : 0 ≤ k ∧ k ≤ 255 := by simpa [Lit.wf, IntKind.min, IntKind.max, IntKind.signed, IntKind.bits] using hw
      refine ⟨UInt8.ofNat k.toNat, ?_⟩
      have := hcat 0 (by omega)
      have e1 : ((UInt8.ofNat k.toNat).toNat : Int) = k := by
        rw [UInt8.toNat_ofNat']; omega
      rw [e1]
      simpa [Addr.add] using this)
    refine ⟨bs, ⟨⟨some a, cap, by rw [hbl], fun e => (by cases e), by omega, hm, fun ad had => ?_⟩, by rw [hbl]; exact hbig len cap (some a) rfl⟩⟩
    cases had
    have hget : ∀ j u, (cellsB bs)[j]? = some u → w.cell? (a.add j) = some u := fun j u hu => by
      have hj : j < bs.length := by
        rcases Nat.lt_or_ge j bs.length with h | h
        · exact h
        · rw [List.getElem?_eq_none (by rw [cellsB_len]; exact h)] at hu; cases hu
      rw [cellsB_get bs j hj] at hu
      rw [← hu]
      exact hbs j _ (List.getElem?_eq_getElem hj)
    refine ⟨fun hne => ?_, hget⟩
    have h0 : 0 < bs.length := List.length_pos_iff.2 hne
    have := World.block_lt_of_cell? w _ (hget 0 _ (cellsB_get bs 0 h0))
    rwa [block_of_add] at this
theorem bs_upto {fuel : Nat} {t e : TypeId} {c : Value} {x : DataW H × List MemPlace} (ht : P.underlying t = some (.slice e)) (he : P.underlying e = some (.int .u8)) (hC : P.cellsOf e = 1)
    (h : DataW.trod enc P w base spare held fuel t [c] = some x) (hB : Rows.uptoBulk x.1 ≤ 1048576) : ∃ bs, Bs w c bs ∧ bs.length + 1 ≤ Rows.uptoBulk x.1 := by
  have hlen : ∀ len cap a, c = .slice a len cap → len + 1 ≤ Rows.uptoBulk x.1 := by
    intro len cap a hc
    subst hc
    rcases open_slice ht h with ⟨h2, h3⟩ | ⟨a, len, cap, m, n, D, Pl, hcs, hb, hl, hm, hmm, rfl, hi⟩
    · simp at h2; have := bulk_one x.1; omega
    · simp at hcs
      obtain ⟨_, rfl, _⟩ := hcs
      have h1 := bulk_len ((List.range len).map D)
      rw [List.length_map, List.length_range] at h1
      simp only [Rows.uptoBulk]
      omega
  obtain ⟨bs, hb⟩ := bs_of_trod ht he hC h (fun len cap a hc => by have := hlen len cap a hc; unfold big; omega)
  obtain ⟨⟨A, cap0, hv, _⟩, _⟩ := id hb
  exact ⟨bs, hb, hlen _ _ _ hv⟩
theorem open_bsU {r : Reach} {b0 : Nat} {t e : TypeId} {v : Value} {d : DataW H} {p : List MemPlace} (ht : P.underlying t = some (.slice e)) (he : P.underlying e = some (.int .u8)) (hC : P.cellsOf e = 1)
    (hv : Value.okWide P w r b0 t v) (h : DataW.Trod enc P w base spare held t v d p) (hB : Rows.uptoBulk d ≤ 1048576) : ∃ bs, Bs w v bs ∧ bs.length + 1 ≤ Rows.uptoBulk d := by
  obtain ⟨A, len, cap, rfl⟩ := okWide_slice ht hv
  obtain ⟨fuel, hf⟩ := h
  simp only [Value.cells] at hf
  exact bs_upto ht he hC hf hB
theorem bulk_mem {l : List (DataW H)} {y : DataW H} (hy : y ∈ l) : Rows.uptoBulk y ≤ Rows.uptoBulkAll l := by
  induction l with
  | nil => cases hy
  | cons z r ih =>
    simp only [Rows.uptoBulkAll]
    rcases List.mem_cons.1 hy with e | e
    · subst e; omega
    · have := ih e; omega
/-- a slice of operations, read -/
def Ops (w : World) (v : Value) (L : List OpV) : Prop := ∃ (A : Option Addr) (cap : Nat), v = .slice A L.length cap ∧ L.length ≤ 1048576 ∧ (0 < L.length → ∃ b off, A = some ⟨b, off, none⟩ ∧ b < w.heap.size ∧
  ∀ i x, L[i]? = some x → x.ok w ∧ x.b.length ≤ 1048576 ∧ ∀ j u, x.cells[j]? = some u → w.cell? ⟨b, off + i * 5 + j, none⟩ = some u)
theorem open_ops {r : Reach} {b0 : Nat} {t e eb : TypeId} {f0 f1 f2 f3 f4 : Field} {v : Value} {d : DataW H} {p : List MemPlace} (ht : P.underlying t = some (.slice e)) (he : P.underlying e = some (.struct #[f0, f1, f2, f3, f4]))
    (hC : P.cellsOf e = 5) (h0 : f0.offset = 0 ∧ P.cellsOf f0.type = 1 ∧ P.underlying f0.type = some (.int .i64)) (h1 : f1.offset = 1 ∧ P.cellsOf f1.type = 1 ∧ P.underlying f1.type = some .string)
    (h2 : f2.offset = 2 ∧ P.cellsOf f2.type = 1 ∧ P.underlying f2.type = some .string) (h3 : f3.offset = 3 ∧ P.cellsOf f3.type = 1 ∧ P.underlying f3.type = some (.int .i64)) (h4 : f4.offset = 4 ∧ P.cellsOf f4.type = 1 ∧ P.underlying f4.type = some (.slice eb))
    (hb8 : P.underlying eb = some (.int .u8)) (hCb : P.cellsOf eb = 1)
    (hv : Value.okWide P w r b0 t v) (h : DataW.Trod enc P w base spare held t v d p) (hB : Rows.uptoBulk d ≤ 1048576) : ∃ L, Ops w v L := by
  obtain ⟨A, len, cap, rfl⟩ := okWide_slice ht hv
  obtain ⟨fuel, hf⟩ := h
  rcases open_slice ht hf with ⟨q2, q3⟩ | ⟨a, len', cap', m, n, D, Pl, hcs, hb, hl, hm, hmm, hx, hi⟩
  · simp [Value.cells] at q2
    obtain ⟨rfl, rfl, rfl⟩ := q2
    exact ⟨[], none, 0, rfl, by simp, fun h => by simp at h⟩
  · simp [Value.cells] at hcs
    obtain ⟨rfl, rfl, rfl⟩ := hcs
    have hlm : len ≤ m := by rw [hmm]; split <;> omega
    have hall : Rows.uptoBulkAll ((List.range len).map D) + 1 ≤ Rows.uptoBulk d := by
      simp only [Prod.mk.injEq] at hx
      rw [hx.1, ← bulk_slice]; omega
    have hln : len ≤ 1048576 := by
      have h1 := bulk_len ((List.range len).map D)
      rw [List.length_map, List.length_range] at h1
      omega
    have hat : ∀ i, i < len → Rows.uptoBulk (D i) ≤ 1048576 := fun i hil => by
      have := bulk_mem (l := (List.range len).map D) (y := D i) (List.mem_map.2 ⟨i, by simpa using hil, rfl⟩)
      omega
    obtain ⟨L, hLl, hL⟩ := list_choose (P := fun i (x : OpV) => x.ok w ∧ x.b.length ≤ 1048576 ∧ ∀ j u, x.cells[j]? = some u → w.cell? ((a.add (i * 5)).add j) = some u) len (fun i hil => by
      obtain ⟨cs', hc, htr⟩ := hi i (by omega)
      have hbd := hat i hil
      rw [hC] at hc
      obtain ⟨_, hcl, hcat⟩ := World.cells?_some hc
      obtain ⟨xs, n', _, hxx, _, hlen, hg⟩ := DataW.trod_struct he htr
      match cs', hcl, xs, hlen with
      | [c0, c1, c2, c3, c4], _, [y0, y1, y2, y3, y4], _ =>
        have t0 := hg 0 f0 rfl
        have t1 := hg 1 f1 rfl
        have t2 := hg 2 f2 rfl
        have t3 := hg 3 f3 rfl
        have t4 := hg 4 f4 rfl
        rw [h0.1, h0.2.1] at t0
        rw [h1.1, h1.2.1] at t1
        rw [h2.1, h2.2.1] at t2
        rw [h3.1, h3.2.1] at t3
        rw [h4.1, h4.2.1] at t4
        have hD : D i = .agg [y0.1, y1.1, y2.1, y3.1, y4.1] := congrArg Prod.fst hxx
        rw [hD] at hbd
        simp only [Rows.uptoBulk, Rows.uptoBulkAll] at hbd
        obtain ⟨x0, e0, _, _⟩ := DataW.trod_int h0.2.2 t0
        obtain ⟨x1, e1, z1, w1⟩ := DataW.trod_string h1.2.2 t1
        obtain ⟨x2, e2, z2, w2⟩ := DataW.trod_string h2.2.2 t2
        obtain ⟨x3, e3, _, w3⟩ := DataW.trod_int h3.2.2 t3
        simp at e0 e1 e2 e3
        subst e0 e1 e2 e3
        obtain ⟨b, hbs, hbl⟩ := bs_upto (c := c4) h4.2.2 hb8 hCb (by simpa using t4) (by omega)
        rw [z1] at hbd
        rw [z2] at hbd
        simp only [Rows.uptoBulk] at hbd
        have r3 : -9223372036854775808 ≤ x3 ∧ x3 ≤ 9223372036854775807 := by simpa [Lit.wf, IntKind.min, IntKind.max, IntKind.signed, IntKind.bits] using w3
        refine ⟨⟨x0, x1.data.toList, x2.data.toList, x3, c4, b⟩, ⟨by simp only; omega, by simp only; omega, r3, hbs, by simp only; omega⟩, by simp only; omega, fun j u hu => ?_⟩
        have b1 : bstr x1.data.toList = x1 := by unfold bstr; simp
        have b2 : bstr x2.data.toList = x2 := by unfold bstr; simp
        simp only [OpV.cells, b1, b2] at hu
        have hj : j < 5 := by
          rcases Nat.lt_or_ge j 5 with h | h
          · exact h
          · rw [Array.getElem?_eq_none (by simpa using h)] at hu; cases hu
        rw [hcat j hj]
        simpa using hu)
    refine ⟨L, some a, cap, by rw [hLl], by omega, fun hn => ?_⟩
    have z := (hL 0 _ (List.getElem?_eq_getElem hn)).2.2 0 _ rfl
    have za : a = ⟨a.block, a.off, none⟩ := by
      have := cell_spot z
      simp [Addr.add] at this
      exact this
    have hblt := World.block_lt_of_cell? w _ z
    rw [block_of_add, block_of_add] at hblt
    refine ⟨a.block, a.off, by rw [← za], hblt, fun i x hx => ⟨(hL i x hx).1, (hL i x hx).2.1, fun j u hu => ?_⟩⟩
    have := (hL i x hx).2.2 j u hu
    rw [za] at this
    rw [addr_add, addr_add] at this
    exact this
theorem uptoBound {l : List (DataW H)} (hk : Rows.uptoSmall H l = true) : Rows.uptoBulkAll l ≤ 1048576 := of_decide_eq_true hk
end
end Go.Proofs.Ytnpjfjgnhadmjaa

/- The law's 'same': two disks that are the same plain disk are found the same. -/
namespace Go.Proofs.Ytnpjfjgnhadmjaa
open Go.RowKit Go.Maps Go.Deep
set_option linter.unusedVariables false

section
variable {W w : World} {p r : Nat} {d : Dk} {X : List Asn} {n : List UInt8}
theorem usedD_c (h : St W w (aDisk p d :: X)) : Calls Try.prog 12 #[.pointer (some ⟨p, 0, none⟩)] w fun e w' => e = .returned (.int .i64 (usedF d.R : Int)) ∧ B w w' := by
  obtain ⟨m, E, hE, h⟩ := aDisk.open_ h
  exact used_c h hE
theorem roomD_c (h : St W w (aDisk p d :: X)) : Calls Try.prog 30 #[.pointer (some ⟨p, 0, none⟩)] w fun e w' => e = .returned (.int .i64 (d.room - (usedF d.R : Int))) ∧ B w w' := by
  obtain ⟨m, E, hE, h⟩ := aDisk.open_ h
  exact room_c h hE
theorem offD_c (h : St W w (aDisk p d :: X)) : Calls Try.prog 15 #[.pointer (some ⟨p, 0, none⟩)] w fun e w' => e = .returned (.bool d.off) ∧ w = w' := by
  obtain ⟨m, E, hE, h⟩ := aDisk.open_ h
  exact off_c (dkL.blk h)
theorem aRdk.cells (h : St W w (aRdk p d :: X)) : w.cell? ⟨p, 1, none⟩ = some (.int .i64 d.room) ∧ w.cell? ⟨p, 2, none⟩ = some (.bool d.off) := by
  obtain ⟨A, c, vs, h1, h2, h3⟩ := aRdk.open_ h
  have c1 := (aBlk.get h3).cell 1
  have c2 := (aBlk.get h3).cell 2
  simp at c1 c2
  exact ⟨c1, c2⟩
theorem aRdk.ok (h : St W w (aRdk p d :: X)) : d.ok := by
  obtain ⟨A, c, vs, h1, h2, h3⟩ := aRdk.open_ h
  exact h1
theorem St.rowOne (h : St W w X) (e : TypeId) (x : Value) : St W (w.alloc (.cells #[x] e)) (aRow e 1 (.slice (some ⟨w.heap.size, 0, none⟩) 1 1) 1 [x] :: X) :=
  h.add (B.alloc' _ _) (A := aRow e 1 (.slice (some ⟨w.heap.size, 0, none⟩) 1 1) 1 [x]) (own := fun b => b = w.heap.size)
    ⟨⟨rfl, .inr ⟨_, 1, #[x], rfl, Nat.zero_le _, heap_alloc_new w _, Nat.le_refl _, by unfold maxLen; omega, rfl, rfl⟩⟩, fun g hg => by simpa [Value.ownBlock] using hg.symm⟩ (fun b e => by omega)
theorem St.rot4 {A C D E : Asn} (h : St W w (A :: C :: D :: E :: X)) : St W w (E :: A :: C :: D :: X) := h.perm (List.perm_middle (l₁ := [A, C, D]) (l₂ := X))
theorem St.rowRdd {e : TypeId} {sz n : Nat} {v : Value} {xs : List Value} (h : St W w (aRow e sz v n xs :: X)) : Rd w v n sz xs := by
  obtain ⟨own, h1, _⟩ := h.get
  exact Rd.of_own h1.1
theorem get_len (hd : d.ok) (n : List UInt8) : (getF d n).1.length ≤ big := by
  unfold getF
  cases hm : mayF d n with
  | mk o e =>
    cases o with
    | none => simp
    | some i =>
      obtain ⟨_, _, f, hf, _⟩ := may_some hm
      simp only
      rw [hf]
      have := used_drop hf
      have := hd.used
      have := hd.room
      show f.b.length ≤ big
      unfold big
      omega
set_option maxRecDepth 20000 in
set_option maxHeartbeats 4000000 in
theorem same_c (h : St W w (aDisk p d :: aRdk r d :: X)) (hn : n.length ≤ 4194304000) (hd : nmOk d) :
    Calls Try.prog 14 #[.pointer (some ⟨p, 0, none⟩), .pointer (some ⟨r, 0, none⟩), .string (bstr n)] w fun e w' => e = .returned (.bool true) ∧ St W w' (aDisk p d :: aRdk r d :: X) := by
  have HH := Lib.hid h
  have H0 := Lib.hid (h.later (Below.refl _ _).drew)
  have hok := aRdk.ok h.swap
  have HM := Lib.hid (show (d.R.map Fl.nm).length ≤ 1000 by have := hok.many; simp; omega)
  have HGL := Lib.hid (get_len hok)
  obtain ⟨N, hN⟩ : ∃ N : List (List UInt8), d.R.map Fl.nm = N := ⟨_, rfl⟩
  have HNN := Lib.hid hN
  have HNL := Lib.hid (show ∀ x ∈ n :: N, x.length ≤ maxLen from fun x hx => by
    rcases List.mem_cons.1 hx with e | e
    · rw [e]; unfold maxLen; omega
    · rw [← hN] at e
      obtain ⟨f, hf, rfl⟩ := List.mem_map.1 e
      have := hd f hf
      unfold maxLen; omega)
  have hNM : N.length ≤ 64 := by rw [← hN]; simpa using hok.many
  obtain ⟨us, hus⟩ : ∃ us : Int, ((usedF d.R : Nat) : Int) = us := ⟨_, rfl⟩
  have hr := hok.room
  have hu := hok.used
  have hu0 : (0 : Int) ≤ (usedF d.R : Int) := by omega
  obtain ⟨z, hz⟩ : ∃ z : Int, d.room - (usedF d.R : Int) = z := ⟨_, rfl⟩
  have hq : IntKind.i64.wrap (d.room - us) = z := by rw [← hus, ← hz]; simp [IntKind.wrap, IntKind.signed, IntKind.bits]; omega
  have HUS := Lib.hid hus
  have HZ := Lib.hid hz
  obtain ⟨k1, k2⟩ := aRdk.cells H0.out.swap
  obtain ⟨rm, hrm⟩ : ∃ rm : Int, d.room = rm := ⟨_, rfl⟩
  obtain ⟨of, hof⟩ : ∃ of : Bool, d.off = of := ⟨_, rfl⟩
  have HRM := Lib.hid hrm
  have HOF := Lib.hid hof
  rw [hrm] at hq k1
  rw [hof] at k2
  clear h hok hr hu hu0 hus hz hn hd hrm hof hN
  go_enter Try.func14, Try.ntmps14
  go_wp2_with fail
  go_region_held3 (fun w' => w'.cell? ⟨r, 1, none⟩ = some (.int .i64 rm) ∧ w'.cell? ⟨r, 2, none⟩ = some (.bool of)) (first | assumption | (refine ⟨?_, ?_⟩ <;> assumption)) (first
    | (go_at_call 16; (with_reducible refine (list_c H0.out).mono ?_); rintro e w1 ⟨v1, rfl, hS⟩; have H1 := Lib.hid hS; obtain ⟨k11, k12⟩ := aRdk.cells hS.rot3; rw [HRM.out] at k11; rw [HOF.out] at k12; clear hS)
    | (go_at_call 44; (with_reducible refine (rlist_c H1.out.rot3).mono ?_); rintro e w2 ⟨v2, rfl, hS⟩; have H2 := Lib.hid hS; obtain ⟨k21, k22⟩ := aRdk.cells hS.swap; rw [HRM.out] at k21; rw [HOF.out] at k22; clear hS)
    | (go_at_call 21; (with_reducible refine (sequal_c H2.out.rot3 HM.out HM.out).mono ?_); rintro e w3 ⟨rfl, hb3⟩; rw [decide_eq_true rfl]; have H3 := Lib.hid (H2.out.later hb3).rot3.drop.drop.swap; obtain ⟨k31, k32⟩ := aRdk.cells H3.out.swap; rw [HRM.out] at k31; rw [HOF.out] at k32; clear hb3)
    | (go_at_call 12; (with_reducible refine (usedD_c H3.out).mono ?_); rintro e w4 ⟨rfl, hb4⟩; rw [HUS.out]; have H4 := Lib.hid (H3.out.later hb4); obtain ⟨k41, k42⟩ := aRdk.cells H4.out.swap; rw [HRM.out] at k41; rw [HOF.out] at k42; clear hb4)
    | (go_at_call 45; (with_reducible refine (rused_c H4.out.swap).mono ?_); rintro e w5 ⟨rfl, rfl⟩; rw [HUS.out])
    | (go_at_call 30; (with_reducible refine (roomD_c H4.out).mono ?_); rintro e w6 ⟨rfl, hb6⟩; rw [HZ.out]; have H6 := Lib.hid (H4.out.later hb6); obtain ⟨k61, k62⟩ := aRdk.cells H6.out.swap; rw [HRM.out] at k61; rw [HOF.out] at k62; clear hb6)
    | (go_at_call 45; (with_reducible refine (rused_c H6.out.swap).mono ?_); rintro e w7 ⟨rfl, rfl⟩; rw [HUS.out])
    | (go_at_call 15; (with_reducible refine (offD_c H6.out).mono ?_); rintro e w8 ⟨rfl, rfl⟩; rw [HOF.out]))
  all_goals
    clear k1 k2 k11 k12 k21 k22 k31 k32 k41 k42 k61 k62 H0 HH H1 H2 H3 H4 hq
    have HO := Lib.hid (H6.out.rowOne 9 (.string (bstr n)))
    obtain ⟨M, hM⟩ : ∃ M, 1 + N.length = M := ⟨_, rfl⟩
    have HMM := Lib.hid hM
    have hM2 : M ≤ 65 := by omega
    have g1 : 1 + N.length ≤ maxLen := by unfold maxLen; omega
    have g2 : (1 + N.length) * 16 ≤ 140737488355328 := by omega
    have o1 : ∀ x ∈ N.map (fun n => Value.string (bstr n)), x.oneCell' = true := by simp [Value.oneCell']
    clear hM hNM
    go_wp2_with (first
      | (go_at_call 44; (with_reducible refine (rlist_c HO.out.rot3).mono ?_); rintro e w9 ⟨v9, rfl, hS⟩; rw [HNN.out] at hS; have H9 := Lib.hid hS; obtain ⟨A9, c9, rfl⟩ := (show St W w9 (aRow _ _ _ _ _ :: _) from hS).rowSlice; clear hS)
      | (at_builtin; refine wpList_append_St rfl (.tmp 52) (.tmp 54) 45 rfl Try.underlying45 infoS rfl Nat.zero_lt_one rfl rfl H9.out.rot3 (St.rowRdd (show St W _ (aRow _ _ _ _ _ :: _) from H9.out)) o1 g1 g2 ?_; intro A3 c3 w3 hS; rw [HMM.out] at hS; rw [HMM.out]; have H10 := Lib.hid hS.drop2; clear hS))
    have HLL := Lib.hid (show (n :: N).length = M by have := HMM.out; simp; omega)
    go_loopw [57] (fun i wr => ∃ q : Nat, q ≤ M ∧ i = .int .i64 q ∧ Hid (St W wr (aRow 9 1 (.slice A3 M c3) M ((n :: N).map (fun n => Value.string (bstr n))) :: aRdk r d :: aDisk p d :: X))) (fun i _ => M - (intOf i).toNat)
    case atStart => exact ⟨0, Nat.zero_le _, rfl, H10.out⟩
    case round =>
      obtain ⟨q, hq, rfl, HS⟩ := hrel
      clear H6 H9 H10 HO g1 g2 o1
      by_cases hlt : q < M
      · have hqi : (q : Int) < M := by omega
        obtain ⟨x, hx⟩ : ∃ x, (n :: N)[q]? = some x := ⟨_, List.getElem?_eq_getElem (by have := HLL.out; omega)⟩
        obtain ⟨g, rfl⟩ := HS.out.rowSome (by omega)
        have kx := HS.out.rowAt (j := q) (x := .string (bstr x)) (by rw [List.getElem?_map, hx]; rfl)
        have HXL := Lib.hid (HNL.out x (List.mem_of_getElem? hx))
        have HXB := Lib.hid (HGL.out x)
        clear hx
        go_wp2_with (first
          | (go_at_call 17; (with_reducible refine (get_c HS.out.rot3 HXL.out).mono ?_); rintro e w1 ⟨v1, rfl, hS⟩; have H1 := Lib.hid hS; clear hS)
          | (go_at_call 46; (with_reducible refine (rget_c H1.out.rot4).mono ?_); rintro e w2 ⟨v2, rfl, hS⟩; have H2 := Lib.hid hS; clear hS)
          | (go_at_call 18; (with_reducible refine (synced_c H2.out.rot4 HXL.out).mono ?_); rintro e w3 ⟨rfl, rfl⟩)
          | (go_at_call 47; (with_reducible refine (rsynced_c H2.out.swap).mono ?_); rintro e w4 ⟨rfl, rfl⟩)
          | (go_at_call 33; (with_reducible refine (equal68 (H2.out.rot3.byBs HXB.out) (H2.out.byBs HXB.out)).mono ?_); rintro e w5 ⟨rfl, rfl⟩; simp only [beq_self_eq_true]))
        go_roundw
        case rel => exact ⟨q + 1, by omega, by go_num, H2.out.drop.drop2.rot3⟩
        case measure => simp [intOf]; omega
      · have hqe : q = M := by omega
        have hqi : ¬ (q : Int) < M := by omega
        go_wp2_with fail
        go_ret
        exact ⟨rfl, HS.out.drop.swap⟩
end
end Go.Proofs.Ytnpjfjgnhadmjaa

/- The law's 'live': the bytes that the document fixes. -/
namespace Go.Proofs.Ytnpjfjgnhadmjaa
open Go.RowKit Go.Maps Go.Deep
set_option linter.unusedVariables false

section
variable {W w : World} {p r : Nat} {d : Dk} {X : List Asn} {n : List UInt8}
def fA (b : List UInt8) (s : Nat) (o : Bool) : Dk := ⟨[⟨[97], b, s⟩], 10, o⟩
theorem lv0 : createF ⟨[], 10, false⟩ [97] = (0, fA [] 0 false) := by rfl
theorem lv1 : appendF (fA [] 0 false) [97] [1, 2, 3] = (0, fA [1, 2, 3] 0 false) := by rfl
theorem lv2 : syncF (fA [1, 2, 3] 0 false) [97] = (0, fA [1, 2, 3] 3 false) := by rfl
theorem lv3 : appendF (fA [1, 2, 3] 3 false) [97] [4, 5] = (0, fA [1, 2, 3, 4, 5] 3 false) := by rfl
theorem lv4 : syncedF (fA [1, 2, 3, 4, 5] 3 false) [97] = (3, 0) := by rfl
theorem lv5 : crashF (fA [1, 2, 3, 4, 5] 3 false) 1 = (0, fA [1, 2, 3, 4] 4 true) := by rfl
theorem lv6 : restartF (fA [1, 2, 3, 4] 4 true) = (0, fA [1, 2, 3, 4] 4 false) := by rfl
theorem lv7 : getF (fA [1, 2, 3, 4] 4 false) [97] = ([1, 2, 3, 4], 0) := by rfl
theorem lv8 : (fA [1, 2, 3, 4, 5] 3 false).room - ((usedF (fA [1, 2, 3, 4, 5] 3 false).R : Nat) : Int) = 5 := by rfl
theorem len97 : ([97] : List UInt8).length ≤ maxLen := by unfold maxLen; decide
abbrev sA : Value := .string ⟨#[97]⟩
theorem create_l (h : St W w (aDisk p ⟨[], 10, false⟩ :: X)) : Calls Try.prog 23 #[.pointer (some ⟨p, 0, none⟩), .string ⟨#[97]⟩] w fun e w' => e = .returned (.int .i64 0) ∧ St W w' (aDisk p (fA [] 0 false) :: X) := by
  have := create_c h len97
  rw [lv0] at this
  exact this
theorem append1_l {u : Value} (h : St W w (aDisk p (fA [] 0 false) :: X)) (hu : Bs w u [1, 2, 3]) : Calls Try.prog 24 #[.pointer (some ⟨p, 0, none⟩), .string ⟨#[97]⟩, u] w fun e w' => e = .returned (.int .i64 0) ∧ St W w' (aDisk p (fA [1, 2, 3] 0 false) :: X) := by
  have := append_c h len97 hu (by decide)
  rw [lv1] at this
  exact this
theorem sync_l (h : St W w (aDisk p (fA [1, 2, 3] 0 false) :: X)) : Calls Try.prog 26 #[.pointer (some ⟨p, 0, none⟩), .string ⟨#[97]⟩] w fun e w' => e = .returned (.int .i64 0) ∧ St W w' (aDisk p (fA [1, 2, 3] 3 false) :: X) := by
  have := sync_c h len97
  rw [lv2] at this
  exact this
theorem append2_l {u : Value} (h : St W w (aDisk p (fA [1, 2, 3] 3 false) :: X)) (hu : Bs w u [4, 5]) : Calls Try.prog 24 #[.pointer (some ⟨p, 0, none⟩), .string ⟨#[97]⟩, u] w fun e w' => e = .returned (.int .i64 0) ∧ St W w' (aDisk p (fA [1, 2, 3, 4, 5] 3 false) :: X) := by
  have := append_c h len97 hu (by decide)
  rw [lv3] at this
  exact this
theorem synced_l (h : St W w (aDisk p (fA [1, 2, 3, 4, 5] 3 false) :: X)) : Calls Try.prog 18 #[.pointer (some ⟨p, 0, none⟩), .string ⟨#[97]⟩] w fun e w' => e = .returned (.tuple #[.int .i64 3, .int .i64 0]) ∧ w = w' := by
  have := synced_c h len97
  rw [lv4] at this
  exact this
theorem room_l (h : St W w (aDisk p (fA [1, 2, 3, 4, 5] 3 false) :: X)) : Calls Try.prog 30 #[.pointer (some ⟨p, 0, none⟩)] w fun e w' => e = .returned (.int .i64 5) ∧ B w w' := by
  have := roomD_c h
  rw [lv8] at this
  exact this
theorem crash_l (h : St W w (aDisk p (fA [1, 2, 3, 4, 5] 3 false) :: X)) : Calls Try.prog 19 #[.pointer (some ⟨p, 0, none⟩), .int .i64 1] w fun e w' => e = .returned (.int .i64 0) ∧ St W w' (aDisk p (fA [1, 2, 3, 4] 4 true) :: X) := by
  have := crash_c (k := 1) h (by decide)
  rw [lv5] at this
  exact this
theorem restart_l (h : St W w (aDisk p (fA [1, 2, 3, 4] 4 true) :: X)) : Calls Try.prog 20 #[.pointer (some ⟨p, 0, none⟩)] w fun e w' => e = .returned (.int .i64 0) ∧ St W w' (aDisk p (fA [1, 2, 3, 4] 4 false) :: X) := by
  have := restart_c h
  rw [lv6] at this
  exact this
theorem get_l (h : St W w (aDisk p (fA [1, 2, 3, 4] 4 false) :: X)) : Calls Try.prog 17 #[.pointer (some ⟨p, 0, none⟩), .string ⟨#[97]⟩] w fun e w' => ∃ v, e = .returned (.tuple #[v, .int .i64 0]) ∧ St W w' (aBy v [1, 2, 3, 4] :: aDisk p (fA [1, 2, 3, 4] 4 false) :: X) := by
  have := get_c h len97
  rw [lv7] at this
  exact this
theorem lit_later {L : List Asn} (h : St W w L) (cs : Array Value) (t : TypeId) : St W (w.alloc (.cells cs t)) L := h.later (B.alloc' _ _)
set_option maxRecDepth 20000 in
set_option maxHeartbeats 4000000 in
theorem live_c (h : St W w X) : Calls Try.prog 7 #[] w fun e w' => e = .returned (.bool true) ∧ St W w' X := by
  have H0 := Lib.hid h
  clear h
  go_enter Try.func7, Try.ntmps7
  go_wp2_with (first
    | (go_at_call 8; (with_reducible refine (new_yes (k := 10) H0.out (by decide)).mono ?_); rintro e w1 ⟨p, rfl, hS⟩; have H1 := Lib.hid hS; clear hS)
    | (go_at_call 23; (with_reducible refine (create_l H1.out).mono ?_); rintro e w2 ⟨rfl, hS⟩; have H2 := Lib.hid hS; clear hS)
    | (go_at_call 24; (with_reducible refine (append1_l (lit_later H2.out #[.int .u8 1, .int .u8 2, .int .u8 3] 5) (Bs.lit w2 #[.int .u8 1, .int .u8 2, .int .u8 3] [1, 2, 3] 3 rfl rfl (by unfold big; decide))).mono ?_); rintro e w3 ⟨rfl, hS⟩; have H3 := Lib.hid hS; clear hS)
    | (go_at_call 26; (with_reducible refine (sync_l H3.out).mono ?_); rintro e w4 ⟨rfl, hS⟩; have H4 := Lib.hid hS; clear hS)
    | (go_at_call 24; (with_reducible refine (append2_l (lit_later H4.out #[.int .u8 4, .int .u8 5] 5) (Bs.lit w4 #[.int .u8 4, .int .u8 5] [4, 5] 2 rfl rfl (by unfold big; decide))).mono ?_); rintro e w5 ⟨rfl, hS⟩; have H5 := Lib.hid hS; clear hS)
    | (go_at_call 18; (with_reducible refine (synced_l H5.out).mono ?_); rintro e w6 ⟨rfl, rfl⟩)
    | (go_at_call 30; (with_reducible refine (room_l H5.out).mono ?_); rintro e w7 ⟨rfl, hb⟩; have H7 := Lib.hid (H5.out.later hb); clear hb)
    | (go_at_call 19; (with_reducible refine (crash_l H7.out).mono ?_); rintro e w8 ⟨rfl, hS⟩; have H8 := Lib.hid hS; clear hS)
    | (go_at_call 15; (with_reducible refine (offD_c H8.out).mono ?_); rintro e w9 ⟨rfl, rfl⟩; rw [show (fA [1, 2, 3, 4] 4 true).off = true from rfl])
    | (go_at_call 20; (with_reducible refine (restart_l H8.out).mono ?_); rintro e w10 ⟨rfl, hS⟩; have H10 := Lib.hid hS; clear hS)
    | (go_at_call 17; (with_reducible refine (get_l H10.out).mono ?_); rintro e w11 ⟨v, rfl, hS⟩; have H11 := Lib.hid hS; clear hS)
    | (go_at_call 33; (with_reducible refine (equal68 ((lit_later H11.out #[.int .u8 1, .int .u8 2, .int .u8 3, .int .u8 4] 5).byBs (by unfold big; decide)) (Bs.lit w11 #[.int .u8 1, .int .u8 2, .int .u8 3, .int .u8 4] [1, 2, 3, 4] 4 rfl rfl (by unfold big; decide))).mono ?_); rintro e w12 ⟨rfl, rfl⟩; simp only [beq_self_eq_true]))
  go_ret
  exact ⟨rfl, (lit_later H11.out _ _).drop.drop⟩
end
end Go.Proofs.Ytnpjfjgnhadmjaa

/- The law's 'does': both disks do it, and answer the same. -/
namespace Go.Proofs.Ytnpjfjgnhadmjaa
open Go.RowKit Go.Maps Go.Deep
set_option linter.unusedVariables false

section
variable {W w : World} {p r : Nat} {d : Dk} {X : List Asn} {n to b : List UInt8} {at_ : Int} {Au : Option Addr} {cu : Nat}
set_option maxRecDepth 20000 in
set_option maxHeartbeats 4000000 in
theorem does_create (h : St W w (aDisk p d :: aRdk r d :: X)) (hn : n.length ≤ 4194304000) (ht : to.length ≤ 4194304000) (ha : -9223372036854775808 ≤ at_ ∧ at_ ≤ 9223372036854775807) (hu : Bs W (.slice Au b.length cu) b) (hb : b.length ≤ 4194304000) :
    Calls Try.prog 11 #[.pointer (some ⟨p, 0, none⟩), .pointer (some ⟨r, 0, none⟩), .agg #[.int .i64 0, .string (bstr n), .string (bstr to), .int .i64 at_, .slice Au b.length cu]] w fun e w' => e = .returned (.bool true) ∧ St W w' (aDisk p (createF d n).2 :: aRdk r (createF d n).2 :: X) := by
  have HN := Lib.hid (show n.length ≤ maxLen by unfold maxLen; omega)
  have HT := Lib.hid (show to.length ≤ maxLen by unfold maxLen; omega)
  have HA := Lib.hid ha
  have HU := Lib.hid hu
  have HB := Lib.hid hb
  have H0 := Lib.hid ((aBlk.new h 33 #[.int .i64 0, .string (bstr n), .string (bstr to), .int .i64 at_, .slice Au b.length cu]).later (Below.refl _ _).drew)
  clear h hn ht ha hu hb
  go_enter Try.func11, Try.ntmps11
  go_wp2_with fail
  generalize w.heap.size = g at *
  generalize w.alloc (.cells #[.int .i64 0, .string (bstr n), .string (bstr to), .int .i64 at_, .slice Au b.length cu] 33) = w0 at *
  have k01 := H0.out.cellOf (g := g) (t := 33) (cs := #[.int .i64 0, .string (bstr n), .string (bstr to), .int .i64 at_, .slice Au b.length cu]) (by simp) 1
  simp only [List.getElem?_toArray, List.getElem?_cons_succ, List.getElem?_cons_zero] at k01
  go_region_held3 (fun w' => w'.cell? ⟨g, 1, none⟩ = some (.string (bstr n))) (assumption) (first
    | (go_at_call 23; (with_reducible refine (create_c H0.out.swap HN.out).mono ?_); rintro e w1 ⟨rfl, hS⟩; have H1 := Lib.hid hS; clear hS; have k11 := H1.out.cellOf (g := g) (t := 33) (cs := #[.int .i64 0, .string (bstr n), .string (bstr to), .int .i64 at_, .slice Au b.length cu]) (by simp) 1; simp only [List.getElem?_toArray, List.getElem?_cons_succ, List.getElem?_cons_zero] at k11)
    | (go_at_call 34; (with_reducible refine (rcreate_c H1.out.rot3).mono ?_); rintro e w2 ⟨rfl, hS⟩; have H2 := Lib.hid hS; clear hS; have k21 := H2.out.cellOf (g := g) (t := 33) (cs := #[.int .i64 0, .string (bstr n), .string (bstr to), .int .i64 at_, .slice Au b.length cu]) (by simp) 1; simp only [List.getElem?_toArray, List.getElem?_cons_succ, List.getElem?_cons_zero] at k21))
  all_goals
    go_wp2_with fail
    go_ret
    exact ⟨by simp, H2.out.rot3.drop.swap⟩
set_option maxRecDepth 20000 in
set_option maxHeartbeats 4000000 in
theorem does_append (h : St W w (aDisk p d :: aRdk r d :: X)) (hn : n.length ≤ 4194304000) (ht : to.length ≤ 4194304000) (ha : -9223372036854775808 ≤ at_ ∧ at_ ≤ 9223372036854775807) (hu : Bs W (.slice Au b.length cu) b) (hb : b.length ≤ 4194304000) :
    Calls Try.prog 11 #[.pointer (some ⟨p, 0, none⟩), .pointer (some ⟨r, 0, none⟩), .agg #[.int .i64 1, .string (bstr n), .string (bstr to), .int .i64 at_, .slice Au b.length cu]] w fun e w' => e = .returned (.bool true) ∧ St W w' (aDisk p (appendF d n b).2 :: aRdk r (appendF d n b).2 :: X) := by
  have HN := Lib.hid (show n.length ≤ maxLen by unfold maxLen; omega)
  have HT := Lib.hid (show to.length ≤ maxLen by unfold maxLen; omega)
  have HA := Lib.hid ha
  have HU := Lib.hid hu
  have HB := Lib.hid hb
  have H0 := Lib.hid ((aBlk.new h 33 #[.int .i64 1, .string (bstr n), .string (bstr to), .int .i64 at_, .slice Au b.length cu]).later (Below.refl _ _).drew)
  clear h hn ht ha hu hb
  go_enter Try.func11, Try.ntmps11
  go_wp2_with fail
  generalize w.heap.size = g at *
  generalize w.alloc (.cells #[.int .i64 1, .string (bstr n), .string (bstr to), .int .i64 at_, .slice Au b.length cu] 33) = w0 at *
  have k01 := H0.out.cellOf (g := g) (t := 33) (cs := #[.int .i64 1, .string (bstr n), .string (bstr to), .int .i64 at_, .slice Au b.length cu]) (by simp) 1
  simp only [List.getElem?_toArray, List.getElem?_cons_succ, List.getElem?_cons_zero] at k01
  have k04 := H0.out.cellOf (g := g) (t := 33) (cs := #[.int .i64 1, .string (bstr n), .string (bstr to), .int .i64 at_, .slice Au b.length cu]) (by simp) 4
  simp only [List.getElem?_toArray, List.getElem?_cons_succ, List.getElem?_cons_zero] at k04
  go_region_held3 (fun w' => w'.cell? ⟨g, 1, none⟩ = some (.string (bstr n)) ∧ w'.cell? ⟨g, 4, none⟩ = some (.slice Au b.length cu)) (first | assumption | (refine ⟨?_, ?_⟩ <;> assumption)) (first
    | (go_at_call 24; (with_reducible refine (append_c H0.out.swap HN.out (HU.out.later H0.out.swap.b) HB.out).mono ?_); rintro e w1 ⟨rfl, hS⟩; have H1 := Lib.hid hS; clear hS; have k11 := H1.out.cellOf (g := g) (t := 33) (cs := #[.int .i64 1, .string (bstr n), .string (bstr to), .int .i64 at_, .slice Au b.length cu]) (by simp) 1; simp only [List.getElem?_toArray, List.getElem?_cons_succ, List.getElem?_cons_zero] at k11; have k14 := H1.out.cellOf (g := g) (t := 33) (cs := #[.int .i64 1, .string (bstr n), .string (bstr to), .int .i64 at_, .slice Au b.length cu]) (by simp) 4; simp only [List.getElem?_toArray, List.getElem?_cons_succ, List.getElem?_cons_zero] at k14)
    | (go_at_call 35; (with_reducible refine (rappend_c H1.out.rot3 HU.out HB.out).mono ?_); rintro e w2 ⟨rfl, hS⟩; have H2 := Lib.hid hS; clear hS; have k21 := H2.out.cellOf (g := g) (t := 33) (cs := #[.int .i64 1, .string (bstr n), .string (bstr to), .int .i64 at_, .slice Au b.length cu]) (by simp) 1; simp only [List.getElem?_toArray, List.getElem?_cons_succ, List.getElem?_cons_zero] at k21; have k24 := H2.out.cellOf (g := g) (t := 33) (cs := #[.int .i64 1, .string (bstr n), .string (bstr to), .int .i64 at_, .slice Au b.length cu]) (by simp) 4; simp only [List.getElem?_toArray, List.getElem?_cons_succ, List.getElem?_cons_zero] at k24))
  all_goals
    go_wp2_with fail
    go_ret
    exact ⟨by simp, H2.out.rot3.drop.swap⟩
set_option maxRecDepth 20000 in
set_option maxHeartbeats 4000000 in
theorem does_write (h : St W w (aDisk p d :: aRdk r d :: X)) (hn : n.length ≤ 4194304000) (ht : to.length ≤ 4194304000) (ha : -9223372036854775808 ≤ at_ ∧ at_ ≤ 9223372036854775807) (hu : Bs W (.slice Au b.length cu) b) (hb : b.length ≤ 4194304000) :
    Calls Try.prog 11 #[.pointer (some ⟨p, 0, none⟩), .pointer (some ⟨r, 0, none⟩), .agg #[.int .i64 2, .string (bstr n), .string (bstr to), .int .i64 at_, .slice Au b.length cu]] w fun e w' => e = .returned (.bool true) ∧ St W w' (aDisk p (writeF d n at_ b).2 :: aRdk r (writeF d n at_ b).2 :: X) := by
  have HN := Lib.hid (show n.length ≤ maxLen by unfold maxLen; omega)
  have HT := Lib.hid (show to.length ≤ maxLen by unfold maxLen; omega)
  have HA := Lib.hid ha
  have HU := Lib.hid hu
  have HB := Lib.hid hb
  have H0 := Lib.hid ((aBlk.new h 33 #[.int .i64 2, .string (bstr n), .string (bstr to), .int .i64 at_, .slice Au b.length cu]).later (Below.refl _ _).drew)
  clear h hn ht ha hu hb
  go_enter Try.func11, Try.ntmps11
  go_wp2_with fail
  generalize w.heap.size = g at *
  generalize w.alloc (.cells #[.int .i64 2, .string (bstr n), .string (bstr to), .int .i64 at_, .slice Au b.length cu] 33) = w0 at *
  have k01 := H0.out.cellOf (g := g) (t := 33) (cs := #[.int .i64 2, .string (bstr n), .string (bstr to), .int .i64 at_, .slice Au b.length cu]) (by simp) 1
  simp only [List.getElem?_toArray, List.getElem?_cons_succ, List.getElem?_cons_zero] at k01
  have k03 := H0.out.cellOf (g := g) (t := 33) (cs := #[.int .i64 2, .string (bstr n), .string (bstr to), .int .i64 at_, .slice Au b.length cu]) (by simp) 3
  simp only [List.getElem?_toArray, List.getElem?_cons_succ, List.getElem?_cons_zero] at k03
  have k04 := H0.out.cellOf (g := g) (t := 33) (cs := #[.int .i64 2, .string (bstr n), .string (bstr to), .int .i64 at_, .slice Au b.length cu]) (by simp) 4
  simp only [List.getElem?_toArray, List.getElem?_cons_succ, List.getElem?_cons_zero] at k04
  go_region_held3 (fun w' => w'.cell? ⟨g, 1, none⟩ = some (.string (bstr n)) ∧ w'.cell? ⟨g, 3, none⟩ = some (.int .i64 at_) ∧ w'.cell? ⟨g, 4, none⟩ = some (.slice Au b.length cu)) (first | assumption | (refine ⟨?_, ?_, ?_⟩ <;> assumption)) (first
    | (go_at_call 25; (with_reducible refine (write_c H0.out.swap HN.out (HU.out.later H0.out.swap.b) HB.out).mono ?_); rintro e w1 ⟨rfl, hS⟩; have H1 := Lib.hid hS; clear hS; have k11 := H1.out.cellOf (g := g) (t := 33) (cs := #[.int .i64 2, .string (bstr n), .string (bstr to), .int .i64 at_, .slice Au b.length cu]) (by simp) 1; simp only [List.getElem?_toArray, List.getElem?_cons_succ, List.getElem?_cons_zero] at k11; have k13 := H1.out.cellOf (g := g) (t := 33) (cs := #[.int .i64 2, .string (bstr n), .string (bstr to), .int .i64 at_, .slice Au b.length cu]) (by simp) 3; simp only [List.getElem?_toArray, List.getElem?_cons_succ, List.getElem?_cons_zero] at k13; have k14 := H1.out.cellOf (g := g) (t := 33) (cs := #[.int .i64 2, .string (bstr n), .string (bstr to), .int .i64 at_, .slice Au b.length cu]) (by simp) 4; simp only [List.getElem?_toArray, List.getElem?_cons_succ, List.getElem?_cons_zero] at k14)
    | (go_at_call 36; (with_reducible refine (rwrite_c H1.out.rot3 HU.out HB.out).mono ?_); rintro e w2 ⟨rfl, hS⟩; have H2 := Lib.hid hS; clear hS; have k21 := H2.out.cellOf (g := g) (t := 33) (cs := #[.int .i64 2, .string (bstr n), .string (bstr to), .int .i64 at_, .slice Au b.length cu]) (by simp) 1; simp only [List.getElem?_toArray, List.getElem?_cons_succ, List.getElem?_cons_zero] at k21; have k23 := H2.out.cellOf (g := g) (t := 33) (cs := #[.int .i64 2, .string (bstr n), .string (bstr to), .int .i64 at_, .slice Au b.length cu]) (by simp) 3; simp only [List.getElem?_toArray, List.getElem?_cons_succ, List.getElem?_cons_zero] at k23; have k24 := H2.out.cellOf (g := g) (t := 33) (cs := #[.int .i64 2, .string (bstr n), .string (bstr to), .int .i64 at_, .slice Au b.length cu]) (by simp) 4; simp only [List.getElem?_toArray, List.getElem?_cons_succ, List.getElem?_cons_zero] at k24))
  all_goals
    go_wp2_with fail
    go_ret
    exact ⟨by simp, H2.out.rot3.drop.swap⟩
set_option maxRecDepth 20000 in
set_option maxHeartbeats 4000000 in
theorem does_sync (h : St W w (aDisk p d :: aRdk r d :: X)) (hn : n.length ≤ 4194304000) (ht : to.length ≤ 4194304000) (ha : -9223372036854775808 ≤ at_ ∧ at_ ≤ 9223372036854775807) (hu : Bs W (.slice Au b.length cu) b) (hb : b.length ≤ 4194304000) :
    Calls Try.prog 11 #[.pointer (some ⟨p, 0, none⟩), .pointer (some ⟨r, 0, none⟩), .agg #[.int .i64 3, .string (bstr n), .string (bstr to), .int .i64 at_, .slice Au b.length cu]] w fun e w' => e = .returned (.bool true) ∧ St W w' (aDisk p (syncF d n).2 :: aRdk r (syncF d n).2 :: X) := by
  have HN := Lib.hid (show n.length ≤ maxLen by unfold maxLen; omega)
  have HT := Lib.hid (show to.length ≤ maxLen by unfold maxLen; omega)
  have HA := Lib.hid ha
  have HU := Lib.hid hu
  have HB := Lib.hid hb
  have H0 := Lib.hid ((aBlk.new h 33 #[.int .i64 3, .string (bstr n), .string (bstr to), .int .i64 at_, .slice Au b.length cu]).later (Below.refl _ _).drew)
  clear h hn ht ha hu hb
  go_enter Try.func11, Try.ntmps11
  go_wp2_with fail
  generalize w.heap.size = g at *
  generalize w.alloc (.cells #[.int .i64 3, .string (bstr n), .string (bstr to), .int .i64 at_, .slice Au b.length cu] 33) = w0 at *
  have k01 := H0.out.cellOf (g := g) (t := 33) (cs := #[.int .i64 3, .string (bstr n), .string (bstr to), .int .i64 at_, .slice Au b.length cu]) (by simp) 1
  simp only [List.getElem?_toArray, List.getElem?_cons_succ, List.getElem?_cons_zero] at k01
  go_region_held3 (fun w' => w'.cell? ⟨g, 1, none⟩ = some (.string (bstr n))) (assumption) (first
    | (go_at_call 26; (with_reducible refine (sync_c H0.out.swap HN.out).mono ?_); rintro e w1 ⟨rfl, hS⟩; have H1 := Lib.hid hS; clear hS; have k11 := H1.out.cellOf (g := g) (t := 33) (cs := #[.int .i64 3, .string (bstr n), .string (bstr to), .int .i64 at_, .slice Au b.length cu]) (by simp) 1; simp only [List.getElem?_toArray, List.getElem?_cons_succ, List.getElem?_cons_zero] at k11)
    | (go_at_call 37; (with_reducible refine (rsync_c H1.out.rot3).mono ?_); rintro e w2 ⟨rfl, hS⟩; have H2 := Lib.hid hS; clear hS; have k21 := H2.out.cellOf (g := g) (t := 33) (cs := #[.int .i64 3, .string (bstr n), .string (bstr to), .int .i64 at_, .slice Au b.length cu]) (by simp) 1; simp only [List.getElem?_toArray, List.getElem?_cons_succ, List.getElem?_cons_zero] at k21))
  all_goals
    go_wp2_with fail
    go_ret
    exact ⟨by simp, H2.out.rot3.drop.swap⟩
set_option maxRecDepth 20000 in
set_option maxHeartbeats 4000000 in
theorem does_rename (h : St W w (aDisk p d :: aRdk r d :: X)) (hn : n.length ≤ 4194304000) (ht : to.length ≤ 4194304000) (ha : -9223372036854775808 ≤ at_ ∧ at_ ≤ 9223372036854775807) (hu : Bs W (.slice Au b.length cu) b) (hb : b.length ≤ 4194304000) :
    Calls Try.prog 11 #[.pointer (some ⟨p, 0, none⟩), .pointer (some ⟨r, 0, none⟩), .agg #[.int .i64 4, .string (bstr n), .string (bstr to), .int .i64 at_, .slice Au b.length cu]] w fun e w' => e = .returned (.bool true) ∧ St W w' (aDisk p (renameF d n to).2 :: aRdk r (renameF d n to).2 :: X) := by
  have HN := Lib.hid (show n.length ≤ maxLen by unfold maxLen; omega)
  have HT := Lib.hid (show to.length ≤ maxLen by unfold maxLen; omega)
  have HA := Lib.hid ha
  have HU := Lib.hid hu
  have HB := Lib.hid hb
  have H0 := Lib.hid ((aBlk.new h 33 #[.int .i64 4, .string (bstr n), .string (bstr to), .int .i64 at_, .slice Au b.length cu]).later (Below.refl _ _).drew)
  clear h hn ht ha hu hb
  go_enter Try.func11, Try.ntmps11
  go_wp2_with fail
  generalize w.heap.size = g at *
  generalize w.alloc (.cells #[.int .i64 4, .string (bstr n), .string (bstr to), .int .i64 at_, .slice Au b.length cu] 33) = w0 at *
  have k01 := H0.out.cellOf (g := g) (t := 33) (cs := #[.int .i64 4, .string (bstr n), .string (bstr to), .int .i64 at_, .slice Au b.length cu]) (by simp) 1
  simp only [List.getElem?_toArray, List.getElem?_cons_succ, List.getElem?_cons_zero] at k01
  have k02 := H0.out.cellOf (g := g) (t := 33) (cs := #[.int .i64 4, .string (bstr n), .string (bstr to), .int .i64 at_, .slice Au b.length cu]) (by simp) 2
  simp only [List.getElem?_toArray, List.getElem?_cons_succ, List.getElem?_cons_zero] at k02
  go_region_held3 (fun w' => w'.cell? ⟨g, 1, none⟩ = some (.string (bstr n)) ∧ w'.cell? ⟨g, 2, none⟩ = some (.string (bstr to))) (first | assumption | (refine ⟨?_, ?_⟩ <;> assumption)) (first
    | (go_at_call 27; (with_reducible refine (rename_c H0.out.swap HN.out HT.out).mono ?_); rintro e w1 ⟨rfl, hS⟩; have H1 := Lib.hid hS; clear hS; have k11 := H1.out.cellOf (g := g) (t := 33) (cs := #[.int .i64 4, .string (bstr n), .string (bstr to), .int .i64 at_, .slice Au b.length cu]) (by simp) 1; simp only [List.getElem?_toArray, List.getElem?_cons_succ, List.getElem?_cons_zero] at k11; have k12 := H1.out.cellOf (g := g) (t := 33) (cs := #[.int .i64 4, .string (bstr n), .string (bstr to), .int .i64 at_, .slice Au b.length cu]) (by simp) 2; simp only [List.getElem?_toArray, List.getElem?_cons_succ, List.getElem?_cons_zero] at k12)
    | (go_at_call 38; (with_reducible refine (rrename_c H1.out.rot3).mono ?_); rintro e w2 ⟨rfl, hS⟩; have H2 := Lib.hid hS; clear hS; have k21 := H2.out.cellOf (g := g) (t := 33) (cs := #[.int .i64 4, .string (bstr n), .string (bstr to), .int .i64 at_, .slice Au b.length cu]) (by simp) 1; simp only [List.getElem?_toArray, List.getElem?_cons_succ, List.getElem?_cons_zero] at k21; have k22 := H2.out.cellOf (g := g) (t := 33) (cs := #[.int .i64 4, .string (bstr n), .string (bstr to), .int .i64 at_, .slice Au b.length cu]) (by simp) 2; simp only [List.getElem?_toArray, List.getElem?_cons_succ, List.getElem?_cons_zero] at k22))
  all_goals
    go_wp2_with fail
    go_ret
    exact ⟨by simp, H2.out.rot3.drop.swap⟩
set_option maxRecDepth 20000 in
set_option maxHeartbeats 4000000 in
theorem does_trunc (h : St W w (aDisk p d :: aRdk r d :: X)) (hn : n.length ≤ 4194304000) (ht : to.length ≤ 4194304000) (ha : -9223372036854775808 ≤ at_ ∧ at_ ≤ 9223372036854775807) (hu : Bs W (.slice Au b.length cu) b) (hb : b.length ≤ 4194304000) :
    Calls Try.prog 11 #[.pointer (some ⟨p, 0, none⟩), .pointer (some ⟨r, 0, none⟩), .agg #[.int .i64 5, .string (bstr n), .string (bstr to), .int .i64 at_, .slice Au b.length cu]] w fun e w' => e = .returned (.bool true) ∧ St W w' (aDisk p (truncF d n at_).2 :: aRdk r (truncF d n at_).2 :: X) := by
  have HN := Lib.hid (show n.length ≤ maxLen by unfold maxLen; omega)
  have HT := Lib.hid (show to.length ≤ maxLen by unfold maxLen; omega)
  have HA := Lib.hid ha
  have HU := Lib.hid hu
  have HB := Lib.hid hb
  have H0 := Lib.hid ((aBlk.new h 33 #[.int .i64 5, .string (bstr n), .string (bstr to), .int .i64 at_, .slice Au b.length cu]).later (Below.refl _ _).drew)
  clear h hn ht ha hu hb
  go_enter Try.func11, Try.ntmps11
  go_wp2_with fail
  generalize w.heap.size = g at *
  generalize w.alloc (.cells #[.int .i64 5, .string (bstr n), .string (bstr to), .int .i64 at_, .slice Au b.length cu] 33) = w0 at *
  have k01 := H0.out.cellOf (g := g) (t := 33) (cs := #[.int .i64 5, .string (bstr n), .string (bstr to), .int .i64 at_, .slice Au b.length cu]) (by simp) 1
  simp only [List.getElem?_toArray, List.getElem?_cons_succ, List.getElem?_cons_zero] at k01
  have k03 := H0.out.cellOf (g := g) (t := 33) (cs := #[.int .i64 5, .string (bstr n), .string (bstr to), .int .i64 at_, .slice Au b.length cu]) (by simp) 3
  simp only [List.getElem?_toArray, List.getElem?_cons_succ, List.getElem?_cons_zero] at k03
  go_region_held3 (fun w' => w'.cell? ⟨g, 1, none⟩ = some (.string (bstr n)) ∧ w'.cell? ⟨g, 3, none⟩ = some (.int .i64 at_)) (first | assumption | (refine ⟨?_, ?_⟩ <;> assumption)) (first
    | (go_at_call 28; (with_reducible refine (trunc_c H0.out.swap HN.out HA.out.2).mono ?_); rintro e w1 ⟨rfl, hS⟩; have H1 := Lib.hid hS; clear hS; have k11 := H1.out.cellOf (g := g) (t := 33) (cs := #[.int .i64 5, .string (bstr n), .string (bstr to), .int .i64 at_, .slice Au b.length cu]) (by simp) 1; simp only [List.getElem?_toArray, List.getElem?_cons_succ, List.getElem?_cons_zero] at k11; have k13 := H1.out.cellOf (g := g) (t := 33) (cs := #[.int .i64 5, .string (bstr n), .string (bstr to), .int .i64 at_, .slice Au b.length cu]) (by simp) 3; simp only [List.getElem?_toArray, List.getElem?_cons_succ, List.getElem?_cons_zero] at k13)
    | (go_at_call 39; (with_reducible refine (rtrunc_c H1.out.rot3 HA.out.2).mono ?_); rintro e w2 ⟨rfl, hS⟩; have H2 := Lib.hid hS; clear hS; have k21 := H2.out.cellOf (g := g) (t := 33) (cs := #[.int .i64 5, .string (bstr n), .string (bstr to), .int .i64 at_, .slice Au b.length cu]) (by simp) 1; simp only [List.getElem?_toArray, List.getElem?_cons_succ, List.getElem?_cons_zero] at k21; have k23 := H2.out.cellOf (g := g) (t := 33) (cs := #[.int .i64 5, .string (bstr n), .string (bstr to), .int .i64 at_, .slice Au b.length cu]) (by simp) 3; simp only [List.getElem?_toArray, List.getElem?_cons_succ, List.getElem?_cons_zero] at k23))
  all_goals
    go_wp2_with fail
    go_ret
    exact ⟨by simp, H2.out.rot3.drop.swap⟩
set_option maxRecDepth 20000 in
set_option maxHeartbeats 4000000 in
theorem does_remove (h : St W w (aDisk p d :: aRdk r d :: X)) (hn : n.length ≤ 4194304000) (ht : to.length ≤ 4194304000) (ha : -9223372036854775808 ≤ at_ ∧ at_ ≤ 9223372036854775807) (hu : Bs W (.slice Au b.length cu) b) (hb : b.length ≤ 4194304000) :
    Calls Try.prog 11 #[.pointer (some ⟨p, 0, none⟩), .pointer (some ⟨r, 0, none⟩), .agg #[.int .i64 6, .string (bstr n), .string (bstr to), .int .i64 at_, .slice Au b.length cu]] w fun e w' => e = .returned (.bool true) ∧ St W w' (aDisk p (removeF d n).2 :: aRdk r (removeF d n).2 :: X) := by
  have HN := Lib.hid (show n.length ≤ maxLen by unfold maxLen; omega)
  have HT := Lib.hid (show to.length ≤ maxLen by unfold maxLen; omega)
  have HA := Lib.hid ha
  have HU := Lib.hid hu
  have HB := Lib.hid hb
  have H0 := Lib.hid ((aBlk.new h 33 #[.int .i64 6, .string (bstr n), .string (bstr to), .int .i64 at_, .slice Au b.length cu]).later (Below.refl _ _).drew)
  clear h hn ht ha hu hb
  go_enter Try.func11, Try.ntmps11
  go_wp2_with fail
  generalize w.heap.size = g at *
  generalize w.alloc (.cells #[.int .i64 6, .string (bstr n), .string (bstr to), .int .i64 at_, .slice Au b.length cu] 33) = w0 at *
  have k01 := H0.out.cellOf (g := g) (t := 33) (cs := #[.int .i64 6, .string (bstr n), .string (bstr to), .int .i64 at_, .slice Au b.length cu]) (by simp) 1
  simp only [List.getElem?_toArray, List.getElem?_cons_succ, List.getElem?_cons_zero] at k01
  go_region_held3 (fun w' => w'.cell? ⟨g, 1, none⟩ = some (.string (bstr n))) (assumption) (first
    | (go_at_call 29; (with_reducible refine (remove_c H0.out.swap HN.out).mono ?_); rintro e w1 ⟨rfl, hS⟩; have H1 := Lib.hid hS; clear hS; have k11 := H1.out.cellOf (g := g) (t := 33) (cs := #[.int .i64 6, .string (bstr n), .string (bstr to), .int .i64 at_, .slice Au b.length cu]) (by simp) 1; simp only [List.getElem?_toArray, List.getElem?_cons_succ, List.getElem?_cons_zero] at k11)
    | (go_at_call 40; (with_reducible refine (rremove_c H1.out.rot3).mono ?_); rintro e w2 ⟨rfl, hS⟩; have H2 := Lib.hid hS; clear hS; have k21 := H2.out.cellOf (g := g) (t := 33) (cs := #[.int .i64 6, .string (bstr n), .string (bstr to), .int .i64 at_, .slice Au b.length cu]) (by simp) 1; simp only [List.getElem?_toArray, List.getElem?_cons_succ, List.getElem?_cons_zero] at k21))
  all_goals
    go_wp2_with fail
    go_ret
    exact ⟨by simp, H2.out.rot3.drop.swap⟩
set_option maxRecDepth 20000 in
set_option maxHeartbeats 4000000 in
theorem does_crash (h : St W w (aDisk p d :: aRdk r d :: X)) (hn : n.length ≤ 4194304000) (ht : to.length ≤ 4194304000) (ha : -9223372036854775808 ≤ at_ ∧ at_ ≤ 9223372036854775807) (hu : Bs W (.slice Au b.length cu) b) (hb : b.length ≤ 4194304000) :
    Calls Try.prog 11 #[.pointer (some ⟨p, 0, none⟩), .pointer (some ⟨r, 0, none⟩), .agg #[.int .i64 7, .string (bstr n), .string (bstr to), .int .i64 at_, .slice Au b.length cu]] w fun e w' => e = .returned (.bool true) ∧ St W w' (aDisk p (crashF d at_).2 :: aRdk r (crashF d at_).2 :: X) := by
  have HN := Lib.hid (show n.length ≤ maxLen by unfold maxLen; omega)
  have HT := Lib.hid (show to.length ≤ maxLen by unfold maxLen; omega)
  have HA := Lib.hid ha
  have HU := Lib.hid hu
  have HB := Lib.hid hb
  have H0 := Lib.hid ((aBlk.new h 33 #[.int .i64 7, .string (bstr n), .string (bstr to), .int .i64 at_, .slice Au b.length cu]).later (Below.refl _ _).drew)
  clear h hn ht ha hu hb
  go_enter Try.func11, Try.ntmps11
  go_wp2_with fail
  generalize w.heap.size = g at *
  generalize w.alloc (.cells #[.int .i64 7, .string (bstr n), .string (bstr to), .int .i64 at_, .slice Au b.length cu] 33) = w0 at *
  have k03 := H0.out.cellOf (g := g) (t := 33) (cs := #[.int .i64 7, .string (bstr n), .string (bstr to), .int .i64 at_, .slice Au b.length cu]) (by simp) 3
  simp only [List.getElem?_toArray, List.getElem?_cons_succ, List.getElem?_cons_zero] at k03
  go_region_held3 (fun w' => w'.cell? ⟨g, 3, none⟩ = some (.int .i64 at_)) (assumption) (first
    | (go_at_call 19; (with_reducible refine (crash_c H0.out.swap HA.out).mono ?_); rintro e w1 ⟨rfl, hS⟩; have H1 := Lib.hid hS; clear hS; have k13 := H1.out.cellOf (g := g) (t := 33) (cs := #[.int .i64 7, .string (bstr n), .string (bstr to), .int .i64 at_, .slice Au b.length cu]) (by simp) 3; simp only [List.getElem?_toArray, List.getElem?_cons_succ, List.getElem?_cons_zero] at k13)
    | (go_at_call 41; (with_reducible refine (rcrash_c H1.out.rot3 HA.out).mono ?_); rintro e w2 ⟨rfl, hS⟩; have H2 := Lib.hid hS; clear hS; have k23 := H2.out.cellOf (g := g) (t := 33) (cs := #[.int .i64 7, .string (bstr n), .string (bstr to), .int .i64 at_, .slice Au b.length cu]) (by simp) 3; simp only [List.getElem?_toArray, List.getElem?_cons_succ, List.getElem?_cons_zero] at k23))
  all_goals
    go_wp2_with fail
    go_ret
    exact ⟨by simp, H2.out.rot3.drop.swap⟩
set_option maxRecDepth 20000 in
set_option maxHeartbeats 4000000 in
theorem does_restart (h : St W w (aDisk p d :: aRdk r d :: X)) (hn : n.length ≤ 4194304000) (ht : to.length ≤ 4194304000) (ha : -9223372036854775808 ≤ at_ ∧ at_ ≤ 9223372036854775807) (hu : Bs W (.slice Au b.length cu) b) (hb : b.length ≤ 4194304000) :
    Calls Try.prog 11 #[.pointer (some ⟨p, 0, none⟩), .pointer (some ⟨r, 0, none⟩), .agg #[.int .i64 8, .string (bstr n), .string (bstr to), .int .i64 at_, .slice Au b.length cu]] w fun e w' => e = .returned (.bool true) ∧ St W w' (aDisk p (restartF d).2 :: aRdk r (restartF d).2 :: X) := by
  have HN := Lib.hid (show n.length ≤ maxLen by unfold maxLen; omega)
  have HT := Lib.hid (show to.length ≤ maxLen by unfold maxLen; omega)
  have HA := Lib.hid ha
  have HU := Lib.hid hu
  have HB := Lib.hid hb
  have H0 := Lib.hid (aBlk.new h 33 #[.int .i64 8, .string (bstr n), .string (bstr to), .int .i64 at_, .slice Au b.length cu])
  clear h hn ht ha hu hb
  go_enter Try.func11, Try.ntmps11
  go_wp2_with (first
    | (go_at_call 20; (with_reducible refine (restart_c H0.out.swap).mono ?_); rintro e w1 ⟨rfl, hS⟩; have H1 := Lib.hid hS; clear hS)
    | (go_at_call 42; (with_reducible refine (rrestart_c H1.out.rot3).mono ?_); rintro e w2 ⟨rfl, hS⟩; have H2 := Lib.hid hS; clear hS))
  go_ret
  exact ⟨by simp, H2.out.rot3.drop.swap⟩
set_option maxRecDepth 20000 in
set_option maxHeartbeats 4000000 in
theorem does_none {k : Int} (h : St W w (aDisk p d :: aRdk r d :: X)) (h0 : ¬ k = 0) (h1 : ¬ k = 1) (h2 : ¬ k = 2) (h3 : ¬ k = 3) (h4 : ¬ k = 4) (h5 : ¬ k = 5) (h6 : ¬ k = 6) (h7 : ¬ k = 7) (h8 : ¬ k = 8) :
    Calls Try.prog 11 #[.pointer (some ⟨p, 0, none⟩), .pointer (some ⟨r, 0, none⟩), .agg #[.int .i64 k, .string (bstr n), .string (bstr to), .int .i64 at_, .slice Au b.length cu]] w fun e w' => e = .returned (.bool true) ∧ St W w' (aDisk p d :: aRdk r d :: X) := by
  have H0 := Lib.hid (aBlk.new h 33 #[.int .i64 k, .string (bstr n), .string (bstr to), .int .i64 at_, .slice Au b.length cu])
  clear h
  go_enter Try.func11, Try.ntmps11
  go_wp2_with fail
  go_ret
  exact ⟨rfl, H0.out.drop⟩
theorem does_c {o : OpV} (h : St W w (aDisk p d :: aRdk r d :: X)) (ho : o.ok W) :
    Calls Try.prog 11 #[.pointer (some ⟨p, 0, none⟩), .pointer (some ⟨r, 0, none⟩), .agg o.cells] w fun e w' => e = .returned (.bool true) ∧ St W w' (aDisk p (stepF d o).2 :: aRdk r (stepF d o).2 :: X) := by
  obtain ⟨Au, cu, hus⟩ := ho.u.rd.slice
  obtain ⟨k, n, to, at_, u, b⟩ := o
  obtain ⟨hn, ht, ha, hu, hb⟩ := ho
  simp only at hn ht ha hu hb hus
  subst hus
  unfold stepF OpV.cells
  simp only
  split
  · rename_i e; subst e; exact does_create h hn ht ha hu hb
  rename_i h0
  split
  · rename_i e; subst e; exact does_append h hn ht ha hu hb
  rename_i h1
  split
  · rename_i e; subst e; exact does_write h hn ht ha hu hb
  rename_i h2
  split
  · rename_i e; subst e; exact does_sync h hn ht ha hu hb
  rename_i h3
  split
  · rename_i e; subst e; exact does_rename h hn ht ha hu hb
  rename_i h4
  split
  · rename_i e; subst e; exact does_trunc h hn ht ha hu hb
  rename_i h5
  split
  · rename_i e; subst e; exact does_remove h hn ht ha hu hb
  rename_i h6
  split
  · rename_i e; subst e; exact does_crash h hn ht ha hu hb
  rename_i h7
  split
  · rename_i e; subst e; exact does_restart h hn ht ha hu hb
  rename_i h8
  exact does_none h h0 h1 h2 h3 h4 h5 h6 h7 h8
end
end Go.Proofs.Ytnpjfjgnhadmjaa

/- The law's 'refused': whether the reference's disk refuses it; the disk is whatever it becomes. -/
namespace Go.Proofs.Ytnpjfjgnhadmjaa
open Go.RowKit Go.Maps Go.Deep
set_option linter.unusedVariables false

section
variable {W w : World} {p r : Nat} {d : Dk} {X : List Asn} {n to b : List UInt8} {at_ : Int} {Au : Option Addr} {cu : Nat}
set_option maxRecDepth 20000 in
set_option maxHeartbeats 4000000 in
theorem refused_create (h : St W w (aRdk r d :: X)) (hn : n.length ≤ 4194304000) (ht : to.length ≤ 4194304000) (ha : -9223372036854775808 ≤ at_ ∧ at_ ≤ 9223372036854775807) (hu : Bs W (.slice Au b.length cu) b) (hb : b.length ≤ 4194304000) :
    Calls Try.prog 13 #[.pointer (some ⟨r, 0, none⟩), .agg #[.int .i64 0, .string (bstr n), .string (bstr to), .int .i64 at_, .slice Au b.length cu]] w fun e w' => e = .returned (.bool (decide ((createF d n).1 ≠ 0))) ∧ St W w' (aRdk r (createF d n).2 :: X) := by
  have HN := Lib.hid (show n.length ≤ maxLen by unfold maxLen; omega)
  have HT := Lib.hid (show to.length ≤ maxLen by unfold maxLen; omega)
  have HA := Lib.hid ha
  have HU := Lib.hid hu
  have HB := Lib.hid hb
  have H0 := Lib.hid (aBlk.new h 33 #[.int .i64 0, .string (bstr n), .string (bstr to), .int .i64 at_, .slice Au b.length cu])
  clear h hn ht ha hu hb
  have k01 := H0.out.cellOf (g := w.heap.size) (t := 33) (cs := #[.int .i64 0, .string (bstr n), .string (bstr to), .int .i64 at_, .slice Au b.length cu]) (by simp) 1
  simp only [List.getElem?_toArray, List.getElem?_cons_succ, List.getElem?_cons_zero] at k01
  go_enter Try.func13, Try.ntmps13
  go_wp2_with (first
    | (go_at_call 34; (with_reducible refine (rcreate_c H0.out.swap).mono ?_); rintro e w1 ⟨rfl, hS⟩; have H1 := Lib.hid hS; clear hS))
  go_ret
  exact ⟨by (simp; rfl), H1.out.swap.drop⟩
set_option maxRecDepth 20000 in
set_option maxHeartbeats 4000000 in
theorem refused_append (h : St W w (aRdk r d :: X)) (hn : n.length ≤ 4194304000) (ht : to.length ≤ 4194304000) (ha : -9223372036854775808 ≤ at_ ∧ at_ ≤ 9223372036854775807) (hu : Bs W (.slice Au b.length cu) b) (hb : b.length ≤ 4194304000) :
    Calls Try.prog 13 #[.pointer (some ⟨r, 0, none⟩), .agg #[.int .i64 1, .string (bstr n), .string (bstr to), .int .i64 at_, .slice Au b.length cu]] w fun e w' => e = .returned (.bool (decide ((appendF d n b).1 ≠ 0))) ∧ St W w' (aRdk r (appendF d n b).2 :: X) := by
  have HN := Lib.hid (show n.length ≤ maxLen by unfold maxLen; omega)
  have HT := Lib.hid (show to.length ≤ maxLen by unfold maxLen; omega)
  have HA := Lib.hid ha
  have HU := Lib.hid hu
  have HB := Lib.hid hb
  have H0 := Lib.hid (aBlk.new h 33 #[.int .i64 1, .string (bstr n), .string (bstr to), .int .i64 at_, .slice Au b.length cu])
  clear h hn ht ha hu hb
  have k01 := H0.out.cellOf (g := w.heap.size) (t := 33) (cs := #[.int .i64 1, .string (bstr n), .string (bstr to), .int .i64 at_, .slice Au b.length cu]) (by simp) 1
  simp only [List.getElem?_toArray, List.getElem?_cons_succ, List.getElem?_cons_zero] at k01
  have k04 := H0.out.cellOf (g := w.heap.size) (t := 33) (cs := #[.int .i64 1, .string (bstr n), .string (bstr to), .int .i64 at_, .slice Au b.length cu]) (by simp) 4
  simp only [List.getElem?_toArray, List.getElem?_cons_succ, List.getElem?_cons_zero] at k04
  go_enter Try.func13, Try.ntmps13
  go_wp2_with (first
    | (go_at_call 35; (with_reducible refine (rappend_c H0.out.swap HU.out HB.out).mono ?_); rintro e w1 ⟨rfl, hS⟩; have H1 := Lib.hid hS; clear hS))
  go_ret
  exact ⟨by (simp; rfl), H1.out.swap.drop⟩
set_option maxRecDepth 20000 in
set_option maxHeartbeats 4000000 in
theorem refused_write (h : St W w (aRdk r d :: X)) (hn : n.length ≤ 4194304000) (ht : to.length ≤ 4194304000) (ha : -9223372036854775808 ≤ at_ ∧ at_ ≤ 9223372036854775807) (hu : Bs W (.slice Au b.length cu) b) (hb : b.length ≤ 4194304000) :
    Calls Try.prog 13 #[.pointer (some ⟨r, 0, none⟩), .agg #[.int .i64 2, .string (bstr n), .string (bstr to), .int .i64 at_, .slice Au b.length cu]] w fun e w' => e = .returned (.bool (decide ((writeF d n at_ b).1 ≠ 0))) ∧ St W w' (aRdk r (writeF d n at_ b).2 :: X) := by
  have HN := Lib.hid (show n.length ≤ maxLen by unfold maxLen; omega)
  have HT := Lib.hid (show to.length ≤ maxLen by unfold maxLen; omega)
  have HA := Lib.hid ha
  have HU := Lib.hid hu
  have HB := Lib.hid hb
  have H0 := Lib.hid (aBlk.new h 33 #[.int .i64 2, .string (bstr n), .string (bstr to), .int .i64 at_, .slice Au b.length cu])
  clear h hn ht ha hu hb
  have k01 := H0.out.cellOf (g := w.heap.size) (t := 33) (cs := #[.int .i64 2, .string (bstr n), .string (bstr to), .int .i64 at_, .slice Au b.length cu]) (by simp) 1
  simp only [List.getElem?_toArray, List.getElem?_cons_succ, List.getElem?_cons_zero] at k01
  have k03 := H0.out.cellOf (g := w.heap.size) (t := 33) (cs := #[.int .i64 2, .string (bstr n), .string (bstr to), .int .i64 at_, .slice Au b.length cu]) (by simp) 3
  simp only [List.getElem?_toArray, List.getElem?_cons_succ, List.getElem?_cons_zero] at k03
  have k04 := H0.out.cellOf (g := w.heap.size) (t := 33) (cs := #[.int .i64 2, .string (bstr n), .string (bstr to), .int .i64 at_, .slice Au b.length cu]) (by simp) 4
  simp only [List.getElem?_toArray, List.getElem?_cons_succ, List.getElem?_cons_zero] at k04
  go_enter Try.func13, Try.ntmps13
  go_wp2_with (first
    | (go_at_call 36; (with_reducible refine (rwrite_c H0.out.swap HU.out HB.out).mono ?_); rintro e w1 ⟨rfl, hS⟩; have H1 := Lib.hid hS; clear hS))
  go_ret
  exact ⟨by (simp; rfl), H1.out.swap.drop⟩
set_option maxRecDepth 20000 in
set_option maxHeartbeats 4000000 in
theorem refused_rename (h : St W w (aRdk r d :: X)) (hn : n.length ≤ 4194304000) (ht : to.length ≤ 4194304000) (ha : -9223372036854775808 ≤ at_ ∧ at_ ≤ 9223372036854775807) (hu : Bs W (.slice Au b.length cu) b) (hb : b.length ≤ 4194304000) :
    Calls Try.prog 13 #[.pointer (some ⟨r, 0, none⟩), .agg #[.int .i64 4, .string (bstr n), .string (bstr to), .int .i64 at_, .slice Au b.length cu]] w fun e w' => e = .returned (.bool (decide ((renameF d n to).1 ≠ 0))) ∧ St W w' (aRdk r (renameF d n to).2 :: X) := by
  have HN := Lib.hid (show n.length ≤ maxLen by unfold maxLen; omega)
  have HT := Lib.hid (show to.length ≤ maxLen by unfold maxLen; omega)
  have HA := Lib.hid ha
  have HU := Lib.hid hu
  have HB := Lib.hid hb
  have H0 := Lib.hid (aBlk.new h 33 #[.int .i64 4, .string (bstr n), .string (bstr to), .int .i64 at_, .slice Au b.length cu])
  clear h hn ht ha hu hb
  have k01 := H0.out.cellOf (g := w.heap.size) (t := 33) (cs := #[.int .i64 4, .string (bstr n), .string (bstr to), .int .i64 at_, .slice Au b.length cu]) (by simp) 1
  simp only [List.getElem?_toArray, List.getElem?_cons_succ, List.getElem?_cons_zero] at k01
  have k02 := H0.out.cellOf (g := w.heap.size) (t := 33) (cs := #[.int .i64 4, .string (bstr n), .string (bstr to), .int .i64 at_, .slice Au b.length cu]) (by simp) 2
  simp only [List.getElem?_toArray, List.getElem?_cons_succ, List.getElem?_cons_zero] at k02
  go_enter Try.func13, Try.ntmps13
  go_wp2_with (first
    | (go_at_call 38; (with_reducible refine (rrename_c H0.out.swap).mono ?_); rintro e w1 ⟨rfl, hS⟩; have H1 := Lib.hid hS; clear hS))
  go_ret
  exact ⟨by (simp; rfl), H1.out.swap.drop⟩
set_option maxRecDepth 20000 in
set_option maxHeartbeats 4000000 in
theorem refused_trunc (h : St W w (aRdk r d :: X)) (hn : n.length ≤ 4194304000) (ht : to.length ≤ 4194304000) (ha : -9223372036854775808 ≤ at_ ∧ at_ ≤ 9223372036854775807) (hu : Bs W (.slice Au b.length cu) b) (hb : b.length ≤ 4194304000) :
    Calls Try.prog 13 #[.pointer (some ⟨r, 0, none⟩), .agg #[.int .i64 5, .string (bstr n), .string (bstr to), .int .i64 at_, .slice Au b.length cu]] w fun e w' => e = .returned (.bool (decide ((truncF d n at_).1 ≠ 0))) ∧ St W w' (aRdk r (truncF d n at_).2 :: X) := by
  have HN := Lib.hid (show n.length ≤ maxLen by unfold maxLen; omega)
  have HT := Lib.hid (show to.length ≤ maxLen by unfold maxLen; omega)
  have HA := Lib.hid ha
  have HU := Lib.hid hu
  have HB := Lib.hid hb
  have H0 := Lib.hid (aBlk.new h 33 #[.int .i64 5, .string (bstr n), .string (bstr to), .int .i64 at_, .slice Au b.length cu])
  clear h hn ht ha hu hb
  have k01 := H0.out.cellOf (g := w.heap.size) (t := 33) (cs := #[.int .i64 5, .string (bstr n), .string (bstr to), .int .i64 at_, .slice Au b.length cu]) (by simp) 1
  simp only [List.getElem?_toArray, List.getElem?_cons_succ, List.getElem?_cons_zero] at k01
  have k03 := H0.out.cellOf (g := w.heap.size) (t := 33) (cs := #[.int .i64 5, .string (bstr n), .string (bstr to), .int .i64 at_, .slice Au b.length cu]) (by simp) 3
  simp only [List.getElem?_toArray, List.getElem?_cons_succ, List.getElem?_cons_zero] at k03
  go_enter Try.func13, Try.ntmps13
  go_wp2_with (first
    | (go_at_call 39; (with_reducible refine (rtrunc_c H0.out.swap HA.out.2).mono ?_); rintro e w1 ⟨rfl, hS⟩; have H1 := Lib.hid hS; clear hS))
  go_ret
  exact ⟨by (simp; rfl), H1.out.swap.drop⟩
set_option maxRecDepth 20000 in
set_option maxHeartbeats 4000000 in
theorem refused_none {k : Int} (h : St W w (aRdk r d :: X)) (h0 : ¬ k = 0) (h1 : ¬ k = 1) (h2 : ¬ k = 2) (h4 : ¬ k = 4) (h5 : ¬ k = 5) :
    Calls Try.prog 13 #[.pointer (some ⟨r, 0, none⟩), .agg #[.int .i64 k, .string (bstr n), .string (bstr to), .int .i64 at_, .slice Au b.length cu]] w fun e w' => e = .returned (.bool false) ∧ St W w' (aRdk r d :: X) := by
  have H0 := Lib.hid (aBlk.new h 33 #[.int .i64 k, .string (bstr n), .string (bstr to), .int .i64 at_, .slice Au b.length cu])
  clear h
  go_enter Try.func13, Try.ntmps13
  go_wp2_with fail
  go_ret
  exact ⟨rfl, H0.out.drop⟩
/-- whether the law asks that all is as it was -/
def askedF (d : Dk) (o : OpV) : Bool := decide (o.k = 0 ∨ o.k = 1 ∨ o.k = 2 ∨ o.k = 4 ∨ o.k = 5) && decide ((stepF d o).1 ≠ 0)
theorem asked_same {o : OpV} (h : askedF d o = true) : (stepF d o).2 = d := by
  unfold askedF at h
  simp only [Bool.and_eq_true, decide_eq_true_eq] at h
  exact step_same h.2
theorem refused_c {o : OpV} (h : St W w (aRdk r d :: X)) (ho : o.ok W) :
    Calls Try.prog 13 #[.pointer (some ⟨r, 0, none⟩), .agg o.cells] w fun e w' => e = .returned (.bool (askedF d o)) ∧ ∃ d', St W w' (aRdk r d' :: X) := by
  obtain ⟨Au, cu, hus⟩ := ho.u.rd.slice
  obtain ⟨k, n, to, at_, u, b⟩ := o
  obtain ⟨hn, ht, ha, hu, hb⟩ := ho
  simp only at hn ht ha hu hb hus
  subst hus
  unfold askedF stepF OpV.cells
  simp only
  by_cases h0 : k = 0
  · subst h0; exact (refused_create h hn ht ha hu hb).mono fun e w' ⟨h1, h2⟩ => ⟨by rw [h1]; simp, _, h2⟩
  by_cases h1 : k = 1
  · subst h1; exact (refused_append h hn ht ha hu hb).mono fun e w' ⟨h1, h2⟩ => ⟨by rw [h1]; simp, _, h2⟩
  by_cases h2 : k = 2
  · subst h2; exact (refused_write h hn ht ha hu hb).mono fun e w' ⟨h1, h2⟩ => ⟨by rw [h1]; simp, _, h2⟩
  by_cases h4 : k = 4
  · subst h4; exact (refused_rename h hn ht ha hu hb).mono fun e w' ⟨h1, h2⟩ => ⟨by rw [h1]; simp, _, h2⟩
  by_cases h5 : k = 5
  · subst h5; exact (refused_trunc h hn ht ha hu hb).mono fun e w' ⟨h1, h2⟩ => ⟨by rw [h1]; simp, _, h2⟩
  exact (refused_none h h0 h1 h2 h4 h5).mono fun e w' ⟨z1, z2⟩ => ⟨by rw [z1]; simp [h0, h1, h2, h4, h5], _, z2⟩
end
end Go.Proofs.Ytnpjfjgnhadmjaa
