/- Lemmas and contracts, part 5. -/
import Derived.Test.YteaggenihhaajaaGreatZk4
import Derived.Test.YteaggenihhaajaaGreatRows
import Derived.Deep.RegionLaw
import Derived.Deep.Slices
import Derived.Deep.Fields
import Derived.ChangeSame
import Derived.SizedLaws
import Derived.JoinedCond
/- Clones, comparisons of bytes. -/
namespace Go.Proofs.YteaggenihhaajaaGreat
open Go.ChangeShapes Go.WideShapes Go.ChangeAt Go.RowKit Go.Deep
set_option linter.unusedVariables false
theorem info5 : (Tryz.prog.info? 5).map (fun i => (i.zero, i.size, i.bytes)) = some (some (.int .u8 0), 1, 1) := by kernel_rfl
/-- a fresh copy -/
def ClonePost (w : World) (bs : List UInt8) (e : Ending) (w' : World) : Prop := ∃ v', e = .returned v' ∧ w'.ownsRow w.heap.size 5 1 v' bs.length (cellsB bs) ∧ B w w'
set_option maxHeartbeats 400000 in
theorem clone89 {w : World} {v : Value} {bs : List UInt8} (h : Bs w v bs) : Calls Tryz.prog 42 #[v] w (ClonePost w bs) := by
  rcases h.isNil with ⟨rfl, rfl⟩ | ⟨ad, cap, rfl⟩
  · have q : ∀ w, (binOp .eql 26 (.slice none 0 0) (.slice none 0 0)).run Tryz.prog w = .ok (.bool true) w := fun w => by kernel_rfl
    have E := Lib.hid (show ClonePost w [] (.returned (.slice none 0 0)) w from ⟨_, rfl, ownNil w _ _ _, Below.refl _ _⟩)
    clear h
    go_enter Tryz.func42, Tryz.ntmps42
    go_wp2
    go_ret
    exact E.out
  · have q : ∀ w, (binOp .eql 26 (.slice (some ad) bs.length cap) (.slice none 0 0)).run Tryz.prog w = .ok (.bool false) w := fun w => by kernel_rfl
    have hb : B w (w.alloc (.cells #[] 5)) := B.alloc' _ _
    have ho : (w.alloc (.cells #[] 5)).ownsRow w.heap.size 5 1 (.slice (some ⟨w.heap.size, 0, none⟩) 0 0) ([] : List UInt8).length (cellsB []) := ⟨rfl, .inr ⟨_, 0, #[], rfl, Nat.le_refl _, heap_alloc_new w _, Nat.le_refl _, by unfold maxLen; omega, rfl, rfl⟩⟩
    obtain ⟨v', w', hrun, h2, h3, h4⟩ := append_Bs (P := Tryz.prog) (t := 26) (ty := 47) Tryz.underlying26 info5 ho (h.later hb) (by have := h.len; simpa using this) (by simp)
    have E := Lib.hid (show ClonePost w bs (.returned v') w' from ⟨_, rfl, h2, hb.grown h3 (fun k hk => by simp [Value.ownBlock] at hk; omega)⟩)
    clear h ho h2 h3 h4 hb
    go_enter Tryz.func42, Tryz.ntmps42
    go_wp2_with (at_builtin; refine wpList_append_run rfl (.tmp 5) (.tmp 6) 26 rfl rfl rfl hrun ?_)
    go_ret
    exact E.out
/-- what is put: fresh bytes -/
def Fresh (w : World) (bs : List UInt8) (e : Ending) (w' : World) : Prop := ∃ v', e = .returned v' ∧ w'.ownsRow w.heap.size 5 1 v' bs.length (cellsB bs) ∧ B w w'
section
variable {P : Program} {W w : World} {ops : Array Oper} {rest : List Oper} {o : Oper} {a : Act} {Q : Exit → Act → World → Prop} {L : List Asn}
end
section
variable {P : Program} {W w : World} {ops : Array Oper} {rest : List Oper} {o : Oper} {a : Act} {Q : Exit → Act → World → Prop} {L : List Asn}
end
section
variable {P : Program} {W w : World} {ops : Array Oper} {rest : List Oper} {o : Oper} {a : Act} {Q : Exit → Act → World → Prop} {L : List Asn}
theorem St.addRow (h : St W w L) {w' : World} (hb : B w w') {v : Value} {e : TypeId} {sz n : Nat} {xs : List Value} (hr : w'.ownsRow w.heap.size e sz v n xs) : St W w' (aRow e sz v n xs :: L) :=
  h.add hb (A := aRow e sz v n xs) (own := fun x => w.heap.size ≤ x) ⟨row_base hr (Nat.zero_le _), fun g hg => row_ge hr hg⟩ (fun x e => e)
end
theorem St.rowBs {W w : World} {X : List Asn} {v : Value} {x : List UInt8} {n : Nat} (h : St W w (aRow 5 1 v n (cellsB x) :: X)) (hn : n = x.length) (hl : x.length ≤ big) : Bs w v x := by
  subst hn
  obtain ⟨own, hr, _⟩ := h.get
  exact Bs.of_own hr.1 hl
def aBy (v : Value) (bs : List UInt8) : Asn := aRow 5 1 v bs.length (cellsB bs)
theorem aBy.nil {W w : World} {L : List Asn} (h : St W w L) : St W w (aBy (.slice none 0 0) [] :: L) :=
  h.add (Below.refl _ _) (A := aBy (.slice none 0 0) []) (own := fun _ => False) ⟨ownNil _ _ _ _, fun g hg => by simp [Value.ownBlock] at hg⟩ (fun x e => e.elim)
section
variable {W w : World} {L : List Asn} {v : Value} {bs : List UInt8}
theorem St.fresh {P : Program} {f : FuncId} {args : Array Value} (h : St W w L) (hc : Calls P f args w (Fresh w bs)) : Calls P f args w fun e w' => ∃ v, e = .returned v ∧ St W w' (aBy v bs :: L) :=
  hc.mono fun e w' ⟨v, he, hr, hb⟩ => ⟨v, he, h.addRow hb hr⟩
end
section
variable {W w : World} {L : List Asn} {v : Value} {bs : List UInt8}
theorem St.byBs (h : St W w (aBy v bs :: L)) (hl : bs.length ≤ big) : Bs w v bs := h.rowBs rfl hl
end
section
variable {W w : World} {L : List Asn} {v : Value} {bs : List UInt8}
end
section
variable {W w : World} {L : List Asn} {v : Value} {bs : List UInt8}
end
section
variable {W w : World} {L : List Asn}
end
section
variable {W w : World} {L : List Asn}
end
section
variable {P : Program} {W w : World} {ops : Array Oper} {rest : List Oper} {o : Oper} {a : Act} {K : Act → World → Prop} {Q : Exit → Act → World → Prop} {E : Prop} {L : List Asn}
end
theorem addr_at (g o j : Nat) : (⟨g, o, none⟩ : Addr).add j = ⟨g, o + j, none⟩ := by unfold Addr.add; split <;> simp_all
end Go.Proofs.YteaggenihhaajaaGreat

/- Arguments opened, where their bulk is bounded: []byte. -/
namespace Go.Proofs.YteaggenihhaajaaGreat
open Go.ChangeShapes Go.WideShapes Go.ChangeAt Go.RowKit Go.Deep
set_option linter.unusedVariables false

theorem list_choose {α : Type} {P : Nat → α → Prop} (n : Nat) (h : ∀ i, i < n → ∃ x, P i x) : ∃ L : List α, L.length = n ∧ ∀ i x, L[i]? = some x → P i x := by
  induction n with
  | zero => exact ⟨[], rfl, fun i x hx => by simp at hx⟩
  | succ n ih =>
    obtain ⟨L, hl, hL⟩ := ih (fun i hi => h i (by omega))
    obtain ⟨x, hx⟩ := h n (by omega)
    refine ⟨L ++ [x], by simp [hl], fun i y hy => ?_⟩
    by_cases hi : i < L.length
    · rw [List.getElem?_append_left hi] at hy; exact hL i y hy
    · rw [List.getElem?_append_right (by omega)] at hy
      have : i - L.length = 0 := by
        rcases Nat.eq_zero_or_pos (i - L.length) with e | e
        · exact e
        · rw [List.getElem?_eq_none (by simp; omega)] at hy; cases hy
      rw [this] at hy
      simp at hy
      subst hy
      have : i = n := by omega
      rw [this]; exact hx

theorem addr_add (b off k : Nat) : (⟨b, off, none⟩ : Addr).add k = ⟨b, off + k, none⟩ := by unfold Addr.add; split <;> simp_all
theorem cell_spot {w : World} {a : Addr} {v : Value} (h : w.cell? a = some v) : a = ⟨a.block, a.off, none⟩ := by
  unfold World.cell? at h
  split at h
  · split at h
    · cases h
    · rename_i hs
      cases a with
      | mk b o s => cases s with
        | none => rfl
        | some x => simp at hs
  · cases h

theorem bulk_one {H : Type} (d : DataW H) : 1 ≤ Rows.uptoBulk d := by
  cases d with
  | lit l => cases l <;> simp [Rows.uptoBulk]
  | nil => simp [Rows.uptoBulk]
  | ptr d => simp [Rows.uptoBulk]
  | slice elems spare => simp [Rows.uptoBulk]
  | agg parts => simp [Rows.uptoBulk]
  | iface t d => simp [Rows.uptoBulk]
  | map entries => simp [Rows.uptoBulk]
  | held h => simp [Rows.uptoBulk]
theorem bulk_len {H : Type} (l : List (DataW H)) : l.length ≤ Rows.uptoBulkAll l := by
  induction l with
  | nil => simp [Rows.uptoBulkAll]
  | cons x r ih => have := bulk_one x; simp only [Rows.uptoBulkAll, List.length_cons]; omega
theorem bulk_sum {H α : Type} (f : α → Nat) : ∀ (L : List α) (E : List (DataW H)), L.length = E.length → (∀ (i : Nat) (x : α) (d : DataW H), L[i]? = some x → E[i]? = some d → f x ≤ Rows.uptoBulk d) → (L.map f).sum ≤ Rows.uptoBulkAll E
  | [], [], _, _ => by simp
  | [], _ :: _, h, _ => by simp at h
  | _ :: _, [], h, _ => by simp at h
  | x :: L, d :: E, h, hf => by
    have h0 := hf 0 x d rfl rfl
    have := bulk_sum f L E (by simpa using h) (fun i y c h1 h2 => hf (i + 1) y c (by simpa using h1) (by simpa using h2))
    simp only [List.map_cons, List.sum_cons, Rows.uptoBulkAll]
    omega
section
variable {H : Type} {enc : TypeId × Value → H} {P : Program} {w : World} {base : Nat} {held : Bool} {spare : Nat → Bool}
theorem bs_of_trod {fuel : Nat} {t e : TypeId} {c : Value} {x : DataW H × List MemPlace} (ht : P.underlying t = some (.slice e)) (he : P.underlying e = some (.int .u8)) (hC : P.cellsOf e = 1)
    (h : DataW.trod enc P w base spare held fuel t [c] = some x) (hbig : ∀ len cap a, c = .slice a len cap → len ≤ big) : ∃ bs, Bs w c bs := by
  rcases open_slice ht h with ⟨h2, h3⟩ | ⟨a, len, cap, m, n, D, Pl, hcs, hb, hl, hm, hmm, hx, hi⟩
  · simp at h2
    subst h2
    exact ⟨[], Bs.nil w⟩
  · simp at hcs
    subst hcs
    have hlm : len ≤ m := by rw [hmm]; split <;> omega
    obtain ⟨bs, hbl, hbs⟩ := list_choose (P := fun i (b : UInt8) => w.cell? (a.add i) = some (.int .u8 (b.toNat : Int))) len (fun i hil => by
      obtain ⟨cs', hc, htr⟩ := hi i (by omega)
      rw [hC] at hc
      obtain ⟨_, hcl, hcat⟩ := World.cells?_some hc
      obtain ⟨k, rfl, _, hw⟩ := DataW.trod_int he htr
      have hk : 0 ≤ k ∧ k ≤ 255 := by simpa [Lit.wf, IntKind.min, IntKind.max, IntKind.signed, IntKind.bits] using hw
      refine ⟨UInt8.ofNat k.toNat, ?_⟩
      have := hcat 0 (by omega)
      have e1 : ((UInt8.ofNat k.toNat).toNat : Int) = k := by
        rw [UInt8.toNat_ofNat']; omega
      rw [e1]
      simpa [Addr.add] using this)
    refine ⟨bs, ⟨⟨some a, cap, by rw [hbl], fun e => (by cases e), by omega, hm, fun ad had => ?_⟩, by rw [hbl]; exact hbig len cap (some a) rfl⟩⟩
    cases had
    have hget : ∀ j u, (cellsB bs)[j]? = some u → w.cell? (a.add j) = some u := fun j u hu => by
      have hj : j < bs.length := by
        rcases Nat.lt_or_ge j bs.length with h | h
        · exact h
        · rw [List.getElem?_eq_none (by rw [cellsB_len]; exact h)] at hu; cases hu
      rw [cellsB_get bs j hj] at hu
      rw [← hu]
      exact hbs j _ (List.getElem?_eq_getElem hj)
    refine ⟨fun hne => ?_, hget⟩
    have h0 : 0 < bs.length := List.length_pos_iff.2 hne
    have := World.block_lt_of_cell? w _ (hget 0 _ (cellsB_get bs 0 h0))
    rwa [block_of_add] at this
theorem bs_upto {fuel : Nat} {t e : TypeId} {c : Value} {x : DataW H × List MemPlace} (ht : P.underlying t = some (.slice e)) (he : P.underlying e = some (.int .u8)) (hC : P.cellsOf e = 1)
    (h : DataW.trod enc P w base spare held fuel t [c] = some x) (hB : Rows.uptoBulk x.1 ≤ 1048576) : ∃ bs, Bs w c bs ∧ bs.length + 1 ≤ Rows.uptoBulk x.1 := by
  have hlen : ∀ len cap a, c = .slice a len cap → len + 1 ≤ Rows.uptoBulk x.1 := by
    intro len cap a hc
    subst hc
    rcases open_slice ht h with ⟨h2, h3⟩ | ⟨a, len, cap, m, n, D, Pl, hcs, hb, hl, hm, hmm, rfl, hi⟩
    · simp at h2; have := bulk_one x.1; omega
    · simp at hcs
      obtain ⟨_, rfl, _⟩ := hcs
      have h1 := bulk_len ((List.range len).map D)
      rw [List.length_map, List.length_range] at h1
      simp only [Rows.uptoBulk]
      omega
  obtain ⟨bs, hb⟩ := bs_of_trod ht he hC h (fun len cap a hc => by have := hlen len cap a hc; unfold big; omega)
  obtain ⟨⟨A, cap0, hv, _⟩, _⟩ := id hb
  exact ⟨bs, hb, hlen _ _ _ hv⟩
theorem bulk_mem {l : List (DataW H)} {y : DataW H} (hy : y ∈ l) : Rows.uptoBulk y ≤ Rows.uptoBulkAll l := by
  induction l with
  | nil => cases hy
  | cons z r ih =>
    simp only [Rows.uptoBulkAll]
    rcases List.mem_cons.1 hy with e | e
    · subst e; omega
    · have := ih e; omega
theorem uptoBound {l : List (DataW H)} (hk : Rows.uptoSmall H l = true) : Rows.uptoBulkAll l ≤ 1048576 := of_decide_eq_true hk
end
end Go.Proofs.YteaggenihhaajaaGreat

/- How the values of a type read: 'Ty', a reading of cells as a datum; structs, strings, byte strings, lists of them. No program here. -/
namespace Go.Proofs.YteaggenihhaajaaGreat
open Go.ChangeShapes Go.WideShapes Go.ChangeAt Go.RowKit Go.Deep
set_option linter.unusedVariables false

/-- a reading of cells: how many cells, what they read as; all that is read lies in blocks of 'inn'; how much a datum holds -/
structure Ty (α : Type) where
  n : Nat
  rd : (Nat → Prop) → World → List Value → α → Prop
  sz : α → Nat
  len : ∀ {inn : Nat → Prop} {w : World} {cs : List Value} {a : α}, rd inn w cs a → cs.length = n
  ext : ∀ {inn own : Nat → Prop} {w w' : World} {cs : List Value} {a : α}, rd inn w cs a → Ext own w w' → (∀ g, inn g → ¬ own g) → rd inn w' cs a
  mono : ∀ {inn inn' : Nat → Prop} {w : World} {cs : List Value} {a : α}, rd inn w cs a → (∀ g, inn g → inn' g) → rd inn' w cs a
  bound : ∀ {inn : Nat → Prop} {w : World} {cs : List Value} {a : α}, rd inn w cs a → rd (fun g => inn g ∧ g < w.heap.size) w cs a
/-- what was there reads as it did -/
theorem Ty.later {α : Type} (T : Ty α) {inn : Nat → Prop} {w w' : World} {cs : List Value} {a : α} (h : T.rd inn w cs a) (hb : B w w') : T.rd inn w' cs a :=
  T.ext h (Ext.of_B (own := fun _ => False) hb) (fun _ _ => id)
def tI : Ty Int where
  n := 1
  rd _ _ cs a := cs = [.int .i64 a] ∧ -9223372036854775808 ≤ a ∧ a ≤ 9223372036854775807
  sz _ := 1
  len h := by rw [h.1]; rfl
  ext h _ _ := h
  mono h _ := h
  bound h := h
def tB : Ty Bool where
  n := 1
  rd _ _ cs a := cs = [.bool a]
  sz _ := 1
  len h := by rw [h]; rfl
  ext h _ _ := h
  mono h _ := h
  bound h := h
def tS : Ty (List UInt8) where
  n := 1
  rd _ _ cs a := cs = [.string (bstr a)] ∧ a.length ≤ 4194304
  sz a := a.length + 1
  len h := by rw [h.1]; rfl
  ext h _ _ := h
  mono h _ := h
  bound h := h
def tY : Ty (List UInt8) where
  n := 1
  rd inn w cs a := ∃ v, cs = [v] ∧ Bs w v a ∧ (∀ g, v.ownBlock = some g → a ≠ [] → inn g) ∧ a.length ≤ 4194304
  sz a := a.length + 1
  len h := by obtain ⟨v, rfl, _⟩ := h; rfl
  ext h hx hd := by obtain ⟨v, rfl, h1, h2, h3⟩ := h; exact ⟨v, rfl, h1.ext hx (fun g hg hne => hd g (h2 g hg hne)), h2, h3⟩
  mono h hs := by obtain ⟨v, rfl, h1, h2, h3⟩ := h; exact ⟨v, rfl, h1, fun g hg hne => hs g (h2 g hg hne), h3⟩
  bound h := by obtain ⟨v, rfl, h1, h2, h3⟩ := h; exact ⟨v, rfl, h1, fun g hg hne => ⟨h2 g hg hne, h1.lt hne hg⟩, h3⟩
/-- a pair, one behind the other -/
def tP {α β : Type} (T : Ty α) (U : Ty β) : Ty (α × β) where
  n := T.n + U.n
  rd inn w cs p := ∃ c d, cs = c ++ d ∧ T.rd inn w c p.1 ∧ U.rd inn w d p.2
  sz p := T.sz p.1 + U.sz p.2
  len h := by obtain ⟨c, d, rfl, h1, h2⟩ := h; rw [List.length_append, T.len h1, U.len h2]
  ext h hx hd := by obtain ⟨c, d, rfl, h1, h2⟩ := h; exact ⟨c, d, rfl, T.ext h1 hx hd, U.ext h2 hx hd⟩
  mono h hs := by obtain ⟨c, d, rfl, h1, h2⟩ := h; exact ⟨c, d, rfl, T.mono h1 hs, U.mono h2 hs⟩
  bound h := by obtain ⟨c, d, rfl, h1, h2⟩ := h; exact ⟨c, d, rfl, T.bound h1, U.bound h2⟩
/-- the same cells, another datum; a struct counts one more -/
def tM {α β : Type} (T : Ty α) (f : β → α) : Ty β where
  n := T.n
  rd inn w cs b := T.rd inn w cs (f b)
  sz b := T.sz (f b) + 1
  len h := T.len h
  ext h hx hd := T.ext h hx hd
  mono h hs := T.mono h hs
  bound h := T.bound h
/-- what a list's block says: each element by its cells -/
def Els2 {α : Type} (T : Ty α) (inn : Nat → Prop) (w : World) (b off : Nat) (xs : List α) : Prop :=
  ∀ i x, xs[i]? = some x → ∃ cs, T.rd inn w cs x ∧ ∀ j v, cs[j]? = some v → w.cell? ⟨b, off + i * T.n + j, none⟩ = some v
def tL {α : Type} (T : Ty α) : Ty (List α) where
  n := 1
  rd inn w cs xs := ∃ A cap, cs = [.slice A xs.length cap] ∧ xs.length ≤ cap ∧ cap ≤ maxLen ∧ (A = none → xs.length = 0 ∧ cap = 0) ∧ xs.length ≤ 4194304 ∧
    (0 < xs.length → ∃ b off, A = some ⟨b, off, none⟩ ∧ b < w.heap.size ∧ inn b ∧ Els2 T inn w b off xs)
  sz xs := (xs.map T.sz).sum + 1
  len h := by obtain ⟨A, cap, rfl, _⟩ := h; rfl
  ext h hx hd := by
    obtain ⟨A, cap, rfl, h1, h2, h3, h4, h5⟩ := h
    refine ⟨A, cap, rfl, h1, h2, h3, h4, fun h0 => ?_⟩
    obtain ⟨b, off, rfl, hb, hi, hel⟩ := h5 h0
    refine ⟨b, off, rfl, Nat.lt_of_lt_of_le hb hx.size, hi, fun i x hix => ?_⟩
    obtain ⟨cs, k1, k2⟩ := hel i x hix
    exact ⟨cs, T.ext k1 hx hd, fun j v hj => hx.cell (hd b hi) (k2 j v hj)⟩
  mono h hs := by
    obtain ⟨A, cap, rfl, h1, h2, h3, h4, h5⟩ := h
    refine ⟨A, cap, rfl, h1, h2, h3, h4, fun h0 => ?_⟩
    obtain ⟨b, off, rfl, hb, hi, hel⟩ := h5 h0
    refine ⟨b, off, rfl, hb, hs b hi, fun i x hix => ?_⟩
    obtain ⟨cs, k1, k2⟩ := hel i x hix
    exact ⟨cs, T.mono k1 hs, k2⟩
  bound h := by
    obtain ⟨A, cap, rfl, h1, h2, h3, h4, h5⟩ := h
    refine ⟨A, cap, rfl, h1, h2, h3, h4, fun h0 => ?_⟩
    obtain ⟨b, off, rfl, hb, hi, hel⟩ := h5 h0
    refine ⟨b, off, rfl, hb, ⟨hi, hb⟩, fun i x hix => ?_⟩
    obtain ⟨cs, k1, k2⟩ := hel i x hix
    exact ⟨cs, T.bound k1, k2⟩
/-- an element of a list -/
theorem tL.at {α : Type} {T : Ty α} {inn : Nat → Prop} {w : World} {A : Option Addr} {l cap : Nat} {xs : List α} (h : (tL T).rd inn w [.slice A l cap] xs) {i : Nat} {x : α} (hi : xs[i]? = some x) :
    l = xs.length ∧ ∃ b off cs, A = some ⟨b, off, none⟩ ∧ T.rd inn w cs x ∧ ∀ j v, cs[j]? = some v → w.cell? ⟨b, off + i * T.n + j, none⟩ = some v := by
  obtain ⟨A', cap', he, h1, h2, h3, h4, h5⟩ := h
  injection he with he _
  injection he with e1 e2 e3
  subst e1 e2 e3
  have hl : i < xs.length := by
    rcases Nat.lt_or_ge i xs.length with h' | h'
    · exact h'
    · rw [List.getElem?_eq_none h'] at hi; cases hi
  obtain ⟨b, off, rfl, hb, hin, hel⟩ := h5 (by omega)
  obtain ⟨cs, k1, k2⟩ := hel i x hi
  exact ⟨rfl, b, off, cs, rfl, k1, k2⟩
theorem tL.slice {α : Type} {T : Ty α} {inn : Nat → Prop} {w : World} {cs : List Value} {xs : List α} (h : (tL T).rd inn w cs xs) : ∃ A cap, cs = [.slice A xs.length cap] ∧ xs.length ≤ 4194304 := by
  obtain ⟨A, cap, rfl, _, _, _, h4, _⟩ := h
  exact ⟨A, cap, rfl, h4⟩
/-! opening what came in -/
/-- a type's readings, of bulk at most 1048576, are data of 'T' -/
def Opens {α : Type} (P : Program) (t : TypeId) (T : Ty α) : Prop :=
  P.cellsOf t = T.n ∧ ∀ {H : Type} {enc : TypeId × Value → H} {w : World} {base : Nat} {held : Bool} {spare : Nat → Bool} {fuel : Nat} {cs : List Value} {x : DataW H × List MemPlace},
    DataW.trod enc P w base spare held fuel t cs = some x → Rows.uptoBulk x.1 ≤ 1048576 → ∃ a, T.rd (fun g => g < w.heap.size) w cs a ∧ T.sz a ≤ Rows.uptoBulk x.1
section
variable {P : Program} {t e : TypeId}
theorem opensI (ht : P.underlying t = some (.int .i64)) (hc : P.cellsOf t = 1) : Opens P t tI := by
  refine ⟨hc, fun h hB => ?_⟩
  obtain ⟨n, rfl, hx, hw⟩ := DataW.trod_int ht h
  rw [hx]
  exact ⟨n, ⟨rfl, by simpa [Lit.wf, IntKind.min, IntKind.max, IntKind.signed, IntKind.bits] using hw⟩, by simp [tI, Rows.uptoBulk]⟩
theorem opensB (ht : P.underlying t = some .bool) (hc : P.cellsOf t = 1) : Opens P t tB := by
  refine ⟨hc, fun h hB => ?_⟩
  obtain ⟨b, rfl, hx⟩ := DataW.trod_bool ht h
  rw [hx]
  exact ⟨b, rfl, by simp [tB, Rows.uptoBulk]⟩
theorem opensS (ht : P.underlying t = some .string) (hc : P.cellsOf t = 1) : Opens P t tS := by
  refine ⟨hc, fun h hB => ?_⟩
  obtain ⟨s, rfl, hx, _⟩ := DataW.trod_string ht h
  rw [hx] at hB ⊢
  simp only [Rows.uptoBulk] at hB ⊢
  refine ⟨s.data.toList, ⟨by cases s; rfl, by omega⟩, by simp [tS]⟩
theorem opensY (ht : P.underlying t = some (.slice e)) (he : P.underlying e = some (.int .u8)) (hC : P.cellsOf e = 1) (hc : P.cellsOf t = 1) : Opens P t tY := by
  refine ⟨hc, fun {H enc w base held spare fuel cs x} h hB => ?_⟩
  have hcs : ∃ c, cs = [c] := by
    rcases open_slice ht h with ⟨rfl, _⟩ | ⟨a, len, cap, m, n, D, Pl, rfl, _⟩
    · exact ⟨_, rfl⟩
    · exact ⟨_, rfl⟩
  obtain ⟨c, rfl⟩ := hcs
  obtain ⟨bs, hb, hl⟩ := bs_upto ht he hC h hB
  exact ⟨bs, ⟨c, rfl, hb, fun g hg hne => hb.lt hne hg, by omega⟩, by simp only [tY]; omega⟩
theorem opensL {α : Type} {T : Ty α} (ht : P.underlying t = some (.slice e)) (hT : Opens P e T) (hpos : 0 < T.n) (hc : P.cellsOf t = 1) : Opens P t (tL T) := by
  refine ⟨hc, fun {H enc w base held spare fuel cs x} h hB => ?_⟩
  rcases open_slice ht h with ⟨rfl, hx⟩ | ⟨a, len, cap, m, n, D, Pl, rfl, hb, hl, hm, hmm, hx, hi⟩
  · rw [hx]
    exact ⟨[], ⟨none, 0, rfl, Nat.le_refl _, by unfold maxLen; omega, fun _ => ⟨rfl, rfl⟩, by simp, fun h0 => by simp at h0⟩, by simp [tL, Rows.uptoBulk]⟩
  · have hlm : len ≤ m := by rw [hmm]; split <;> omega
    rw [hx] at hB ⊢
    simp only [Rows.uptoBulk] at hB ⊢
    have hat : ∀ i, i < len → Rows.uptoBulk (D i) ≤ Rows.uptoBulkAll ((List.range len).map D) := fun i hil => bulk_mem (List.mem_map.2 ⟨i, by simpa using hil, rfl⟩)
    obtain ⟨L, hLl, hL⟩ := list_choose (P := fun i (x : α) => (∃ cs', T.rd (fun g => g < w.heap.size) w cs' x ∧ ∀ j v, cs'[j]? = some v → w.cell? ((a.add (i * T.n)).add j) = some v) ∧ T.sz x ≤ Rows.uptoBulk (D i)) len (fun i hil => by
      obtain ⟨cs', hc', htr⟩ := hi i (by omega)
      obtain ⟨y, hy, hys⟩ := hT.2 htr (by have := hat i hil; show Rows.uptoBulk (D i) ≤ _; omega)
      obtain ⟨_, hcl, hcat⟩ := World.cells?_some hc'
      refine ⟨y, ⟨cs', hy, fun j v hj => ?_⟩, hys⟩
      have hjl : j < cs'.length := by
        rcases Nat.lt_or_ge j cs'.length with h' | h'
        · exact h'
        · rw [List.getElem?_eq_none h'] at hj; cases hj
      rw [← hj, ← hT.1]
      exact hcat j (by omega))
    have hlen1 := bulk_len ((List.range len).map D)
    rw [List.length_map, List.length_range] at hlen1
    refine ⟨L, ⟨some a, cap, by rw [hLl], by omega, hm, fun h' => (by cases h'), by omega, fun h0 => ?_⟩, ?_⟩
    · obtain ⟨⟨cs0, y0, z0⟩, _⟩ := hL 0 _ (List.getElem?_eq_getElem h0)
      have hc0 := T.len y0
      have z1 := z0 0 _ (List.getElem?_eq_getElem (by omega))
      have za : a = ⟨a.block, a.off, none⟩ := by
        have := cell_spot z1
        simp [Addr.add] at this
        exact this
      have hblt := World.block_lt_of_cell? w _ z1
      simp [Addr.add] at hblt
      refine ⟨a.block, a.off, by rw [← za], hblt, hblt, fun i x hix => ?_⟩
      obtain ⟨⟨cs', y, z⟩, _⟩ := hL i x hix
      refine ⟨cs', y, fun j v hj => ?_⟩
      have := z j v hj
      rw [za, addr_add, addr_add] at this
      exact this
    · have := bulk_sum T.sz L ((List.range len).map D) (by simp [hLl]) (fun i x d hx' hd => by
        have hil : i < len := by
          rcases Nat.lt_or_ge i L.length with h' | h'
          · omega
          · rw [List.getElem?_eq_none h'] at hx'; cases hx'
        rw [List.getElem?_map, List.getElem?_range hil] at hd
        cases hd
        exact (hL i x hx').2)
      simp only [tL]
      omega
/-- fields that lie one behind the other from a cell on -/
def OpensF {α : Type} (P : Program) (fs : List Field) (o : Nat) (T : Ty α) : Prop :=
  ∀ {H : Type} {enc : TypeId × Value → H} {w : World} {base : Nat} {held : Bool} {spare : Nat → Bool} {fuel : Nat} {cs : List Value} {xs : List (DataW H × List MemPlace)},
    xs.length = fs.length → (∀ (i : Nat) (f : Field), fs[i]? = some f → DataW.trod enc P w base spare held fuel f.type ((cs.drop f.offset).take (P.cellsOf f.type)) = xs[i]?) → Rows.uptoBulkAll (xs.map (·.1)) ≤ 1048576 →
    ∃ a, T.rd (fun g => g < w.heap.size) w ((cs.drop o).take T.n) a ∧ T.sz a ≤ Rows.uptoBulkAll (xs.map (·.1))
theorem opensF1 {α : Type} {f : Field} {T : Ty α} {o : Nat} (ho : f.offset = o) (hT : Opens P f.type T) : OpensF P [f] o T := by
  intro H enc w base held spare fuel cs xs hl hx hB
  obtain ⟨y, rfl⟩ : ∃ y, xs = [y] := by
    cases xs with
    | nil => simp at hl
    | cons y r => cases r with
      | nil => exact ⟨y, rfl⟩
      | cons _ _ => simp at hl
  have h0 := hx 0 f rfl
  simp only [List.map_cons, List.map_nil, Rows.uptoBulkAll, Nat.add_zero] at hB ⊢
  rw [hT.1, ho] at h0
  exact hT.2 h0 hB
theorem opensFc {α β : Type} {f : Field} {fs : List Field} {T : Ty α} {U : Ty β} {o o' : Nat} (ho : f.offset = o) (ho' : o + T.n = o') (hT : Opens P f.type T) (hU : OpensF P fs o' U) : OpensF P (f :: fs) o (tP T U) := by
  intro H enc w base held spare fuel cs xs hl hx hB
  cases xs with
  | nil => simp at hl
  | cons y r =>
    simp only [List.map_cons, Rows.uptoBulkAll] at hB ⊢
    have h0 := hx 0 f rfl
    rw [hT.1, ho] at h0
    obtain ⟨a, ha, hsa⟩ := hT.2 h0 (by show Rows.uptoBulk y.1 ≤ _; omega)
    obtain ⟨b, hb, hsb⟩ := hU (xs := r) (by simpa using hl) (fun i g hg => by have := hx (i + 1) g (by simpa using hg); simpa using this) (by omega)
    refine ⟨(a, b), ⟨_, _, ?_, ha, hb⟩, by simp only [tP]; omega⟩
    simp only [tP]
    rw [← ho', ← List.drop_drop, ← List.take_add]
theorem opensT {α β : Type} {fs : Array Field} {T : Ty α} {f : β → α} (g : α → β) (hfg : ∀ a, f (g a) = a) (ht : P.underlying t = some (.struct fs)) (hT : OpensF P fs.toList 0 T) (hc : P.cellsOf t = T.n) : Opens P t (tM T f) := by
  refine ⟨hc, fun {H enc w base held spare fuel cs x} h hB => ?_⟩
  obtain ⟨xs, n, _, hx, hcl, hxl, hf⟩ := DataW.trod_struct ht h
  rw [hx] at hB ⊢
  simp only [Rows.uptoBulk] at hB ⊢
  obtain ⟨a, ha, hs⟩ := hT (xs := xs) (by simpa using hxl) (fun i fl hfl => hf i fl (by simpa using hfl)) (by omega)
  refine ⟨g a, ?_, by simp only [tM]; rw [hfg]; omega⟩
  show T.rd _ w cs (f (g a))
  rw [hfg]
  rw [List.drop_zero, List.take_of_length_le (by omega)] at ha
  exact ha
/-- an argument of such a type -/
theorem Opens.arg {α : Type} {T : Ty α} (hT : Opens P t T) {H : Type} {enc : TypeId × Value → H} {w : World} {base : Nat} {held : Bool} {spare : Nat → Bool} {v : Value} {d : DataW H} {p : List MemPlace}
    (h : DataW.Trod enc P w base spare held t v d p) (hB : Rows.uptoBulk d ≤ 1048576) : ∃ a, T.rd (fun g => g < w.heap.size) w v.cells.toList a ∧ T.sz a ≤ Rows.uptoBulk d := by
  obtain ⟨fuel, hf⟩ := h
  exact hT.2 hf hB
end
end Go.Proofs.YteaggenihhaajaaGreat

/- The types of package api as data, how they read, and their cells (printed by gen_jb.py). -/
namespace Go.Proofs.YteaggenihhaajaaGreat
open Go.ChangeShapes Go.WideShapes Go.ChangeAt Go.RowKit Go.Deep
set_option linter.unusedVariables false

theorem len1 {cs : List Value} (h : cs.length = 1) : ∃ v, cs = [v] := by
  cases cs with
  | nil => simp at h
  | cons v r => cases r with
    | nil => exact ⟨v, rfl⟩
    | cons _ _ => simp at h
structure SignD where
  key : Int
  digest : Int
def tSign : Ty SignD := tM (tP tI tI) (fun s : SignD => (s.key, s.digest))
theorem open_Sign : Opens Tryz.prog 59 tSign := by
  refine opensT (fun p => ⟨p.1, p.2⟩) (fun _ => rfl) Tryz.underlying59 ?_ (by kernel_rfl)
  simp only
  refine opensFc (o' := 1) rfl rfl ?_ ?_
  · exact opensI Tryz.underlying3 (by kernel_rfl)
  refine opensF1 rfl ?_
  exact opensI Tryz.underlying22 (by kernel_rfl)
theorem tSign.parts {inn : Nat → Prop} {w : World} {cs : List Value} {s : SignD} (h : tSign.rd inn w cs s) : cs = [.int .i64 s.key, .int .i64 s.digest] ∧ (-9223372036854775808 ≤ s.key ∧ s.key ≤ 9223372036854775807) ∧ (-9223372036854775808 ≤ s.digest ∧ s.digest ≤ 9223372036854775807) := by
  obtain ⟨c0, c1, rfl, h0, h1⟩ := h
  obtain ⟨rfl, b0⟩ := h0
  obtain ⟨rfl, b1⟩ := h1
  exact ⟨rfl, b0, b1⟩
structure OpD where
  kind : Int
  topic : List UInt8
  group : List UInt8
  offset : Int
  records : List (List UInt8)
def tOp : Ty OpD := tM (tP tI (tP tS (tP tS (tP tI (tL tY))))) (fun s : OpD => (s.kind, s.topic, s.group, s.offset, s.records))
theorem open_Op : Opens Tryz.prog 80 tOp := by
  refine opensT (fun p => ⟨p.1, p.2.1, p.2.2.1, p.2.2.2.1, p.2.2.2.2⟩) (fun _ => rfl) Tryz.underlying80 ?_ (by kernel_rfl)
  simp only
  refine opensFc (o' := 1) rfl rfl ?_ ?_
  · exact opensI Tryz.underlying3 (by kernel_rfl)
  refine opensFc (o' := 2) rfl rfl ?_ ?_
  · exact opensS Tryz.underlying9 (by kernel_rfl)
  refine opensFc (o' := 3) rfl rfl ?_ ?_
  · exact opensS Tryz.underlying9 (by kernel_rfl)
  refine opensFc (o' := 4) rfl rfl ?_ ?_
  · exact opensI Tryz.underlying2 (by kernel_rfl)
  refine opensF1 rfl ?_
  refine opensL Tryz.underlying78 ?_ (by decide) (by kernel_rfl)
  exact opensY Tryz.underlying69 Tryz.underlying5 (by kernel_rfl) (by kernel_rfl)
theorem tOp.parts {inn : Nat → Prop} {w : World} {cs : List Value} {s : OpD} (h : tOp.rd inn w cs s) : ∃ v1, cs = [.int .i64 s.kind, .string (bstr s.topic), .string (bstr s.group), .int .i64 s.offset, v1] ∧ (-9223372036854775808 ≤ s.kind ∧ s.kind ≤ 9223372036854775807) ∧ s.topic.length ≤ 4194304 ∧ s.group.length ≤ 4194304 ∧ (-9223372036854775808 ≤ s.offset ∧ s.offset ≤ 9223372036854775807) ∧ (tL tY).rd inn w [v1] s.records := by
  obtain ⟨c0, e1, rfl, h0, c1, e2, rfl, h1, c2, e3, rfl, h2, c3, c4, rfl, h3, h4⟩ := h
  obtain ⟨rfl, b0⟩ := h0
  obtain ⟨rfl, b1⟩ := h1
  obtain ⟨rfl, b2⟩ := h2
  obtain ⟨rfl, b3⟩ := h3
  obtain ⟨u4, rfl⟩ := len1 ((tL tY).len h4)
  exact ⟨u4, rfl, b0, b1, b2, b3, h4⟩
theorem tOp.mk {inn : Nat → Prop} {w : World} {s : OpD} {v1 : Value} (k0 : (-9223372036854775808 ≤ s.kind ∧ s.kind ≤ 9223372036854775807)) (k1 : s.topic.length ≤ 4194304) (k2 : s.group.length ≤ 4194304) (k3 : (-9223372036854775808 ≤ s.offset ∧ s.offset ≤ 9223372036854775807)) (k4 : (tL tY).rd inn w [v1] s.records) : tOp.rd inn w [.int .i64 s.kind, .string (bstr s.topic), .string (bstr s.group), .int .i64 s.offset, v1] s := by
  exact ⟨[.int .i64 s.kind], [.string (bstr s.topic), .string (bstr s.group), .int .i64 s.offset, v1], rfl, ⟨rfl, k0⟩, [.string (bstr s.topic)], [.string (bstr s.group), .int .i64 s.offset, v1], rfl, ⟨rfl, k1⟩, [.string (bstr s.group)], [.int .i64 s.offset, v1], rfl, ⟨rfl, k2⟩, [.int .i64 s.offset], [v1], rfl, ⟨rfl, k3⟩, k4⟩
structure ResultD where
  err : Int
  offset : Int
def tResult : Ty ResultD := tM (tP tI tI) (fun s : ResultD => (s.err, s.offset))
theorem open_Result : Opens Tryz.prog 115 tResult := by
  refine opensT (fun p => ⟨p.1, p.2⟩) (fun _ => rfl) Tryz.underlying115 ?_ (by kernel_rfl)
  simp only
  refine opensFc (o' := 1) rfl rfl ?_ ?_
  · exact opensI Tryz.underlying47 (by kernel_rfl)
  refine opensF1 rfl ?_
  exact opensI Tryz.underlying2 (by kernel_rfl)
structure RequestD where
  client : Int
  time : Int
  op : OpD
def tRequest : Ty RequestD := tM (tP tI (tP tI tOp)) (fun s : RequestD => (s.client, s.time, s.op))
theorem open_Request : Opens Tryz.prog 82 tRequest := by
  refine opensT (fun p => ⟨p.1, p.2.1, p.2.2⟩) (fun _ => rfl) Tryz.underlying82 ?_ (by kernel_rfl)
  simp only
  refine opensFc (o' := 1) rfl rfl ?_ ?_
  · exact opensI Tryz.underlying3 (by kernel_rfl)
  refine opensFc (o' := 2) rfl rfl ?_ ?_
  · exact opensI Tryz.underlying2 (by kernel_rfl)
  refine opensF1 rfl ?_
  exact open_Op
theorem tRequest.parts {inn : Nat → Prop} {w : World} {cs : List Value} {s : RequestD} (h : tRequest.rd inn w cs s) : ∃ v1, cs = [.int .i64 s.client, .int .i64 s.time, .int .i64 s.op.kind, .string (bstr s.op.topic), .string (bstr s.op.group), .int .i64 s.op.offset, v1] ∧ (-9223372036854775808 ≤ s.client ∧ s.client ≤ 9223372036854775807) ∧ (-9223372036854775808 ≤ s.time ∧ s.time ≤ 9223372036854775807) ∧ (-9223372036854775808 ≤ s.op.kind ∧ s.op.kind ≤ 9223372036854775807) ∧ s.op.topic.length ≤ 4194304 ∧ s.op.group.length ≤ 4194304 ∧ (-9223372036854775808 ≤ s.op.offset ∧ s.op.offset ≤ 9223372036854775807) ∧ (tL tY).rd inn w [v1] s.op.records := by
  obtain ⟨c0, e1, rfl, h0, c1, c2, rfl, h1, h2⟩ := h
  obtain ⟨rfl, b0⟩ := h0
  obtain ⟨rfl, b1⟩ := h1
  obtain ⟨u2_0, rfl, f2_0, f2_1, f2_2, f2_3, f2_4⟩ := tOp.parts h2
  exact ⟨u2_0, rfl, b0, b1, f2_0, f2_1, f2_2, f2_3, f2_4⟩
theorem tRequest.mk {inn : Nat → Prop} {w : World} {s : RequestD} {v1 : Value} (k0 : (-9223372036854775808 ≤ s.client ∧ s.client ≤ 9223372036854775807)) (k1 : (-9223372036854775808 ≤ s.time ∧ s.time ≤ 9223372036854775807)) (k2 : (-9223372036854775808 ≤ s.op.kind ∧ s.op.kind ≤ 9223372036854775807)) (k3 : s.op.topic.length ≤ 4194304) (k4 : s.op.group.length ≤ 4194304) (k5 : (-9223372036854775808 ≤ s.op.offset ∧ s.op.offset ≤ 9223372036854775807)) (k6 : (tL tY).rd inn w [v1] s.op.records) : tRequest.rd inn w [.int .i64 s.client, .int .i64 s.time, .int .i64 s.op.kind, .string (bstr s.op.topic), .string (bstr s.op.group), .int .i64 s.op.offset, v1] s := by
  exact ⟨[.int .i64 s.client], [.int .i64 s.time, .int .i64 s.op.kind, .string (bstr s.op.topic), .string (bstr s.op.group), .int .i64 s.op.offset, v1], rfl, ⟨rfl, k0⟩, [.int .i64 s.time], [.int .i64 s.op.kind, .string (bstr s.op.topic), .string (bstr s.op.group), .int .i64 s.op.offset, v1], rfl, ⟨rfl, k1⟩, tOp.mk k2 k3 k4 k5 k6⟩
structure SignedD where
  request : RequestD
  sign : SignD
def tSigned : Ty SignedD := tM (tP tRequest tSign) (fun s : SignedD => (s.request, s.sign))
theorem open_Signed : Opens Tryz.prog 84 tSigned := by
  refine opensT (fun p => ⟨p.1, p.2⟩) (fun _ => rfl) Tryz.underlying84 ?_ (by kernel_rfl)
  simp only
  refine opensFc (o' := 7) rfl rfl ?_ ?_
  · exact open_Request
  refine opensF1 rfl ?_
  exact open_Sign
theorem tSigned.parts {inn : Nat → Prop} {w : World} {cs : List Value} {s : SignedD} (h : tSigned.rd inn w cs s) : ∃ v1, cs = [.int .i64 s.request.client, .int .i64 s.request.time, .int .i64 s.request.op.kind, .string (bstr s.request.op.topic), .string (bstr s.request.op.group), .int .i64 s.request.op.offset, v1, .int .i64 s.sign.key, .int .i64 s.sign.digest] ∧ (-9223372036854775808 ≤ s.request.client ∧ s.request.client ≤ 9223372036854775807) ∧ (-9223372036854775808 ≤ s.request.time ∧ s.request.time ≤ 9223372036854775807) ∧ (-9223372036854775808 ≤ s.request.op.kind ∧ s.request.op.kind ≤ 9223372036854775807) ∧ s.request.op.topic.length ≤ 4194304 ∧ s.request.op.group.length ≤ 4194304 ∧ (-9223372036854775808 ≤ s.request.op.offset ∧ s.request.op.offset ≤ 9223372036854775807) ∧ (tL tY).rd inn w [v1] s.request.op.records ∧ (-9223372036854775808 ≤ s.sign.key ∧ s.sign.key ≤ 9223372036854775807) ∧ (-9223372036854775808 ≤ s.sign.digest ∧ s.sign.digest ≤ 9223372036854775807) := by
  obtain ⟨c0, c1, rfl, h0, h1⟩ := h
  obtain ⟨u0_0, rfl, f0_0, f0_1, f0_2, f0_3, f0_4, f0_5, f0_6⟩ := tRequest.parts h0
  obtain ⟨rfl, f1_0, f1_1⟩ := tSign.parts h1
  exact ⟨u0_0, rfl, f0_0, f0_1, f0_2, f0_3, f0_4, f0_5, f0_6, f1_0, f1_1⟩
structure HeaderD where
  seq : Int
  prev : Int
  batch : Int
  root : Int
  state : Int
def tHeader : Ty HeaderD := tM (tP tI (tP tI (tP tI (tP tI tI)))) (fun s : HeaderD => (s.seq, s.prev, s.batch, s.root, s.state))
theorem open_Header : Opens Tryz.prog 24 tHeader := by
  refine opensT (fun p => ⟨p.1, p.2.1, p.2.2.1, p.2.2.2.1, p.2.2.2.2⟩) (fun _ => rfl) Tryz.underlying24 ?_ (by kernel_rfl)
  simp only
  refine opensFc (o' := 1) rfl rfl ?_ ?_
  · exact opensI Tryz.underlying2 (by kernel_rfl)
  refine opensFc (o' := 2) rfl rfl ?_ ?_
  · exact opensI Tryz.underlying22 (by kernel_rfl)
  refine opensFc (o' := 3) rfl rfl ?_ ?_
  · exact opensI Tryz.underlying22 (by kernel_rfl)
  refine opensFc (o' := 4) rfl rfl ?_ ?_
  · exact opensI Tryz.underlying22 (by kernel_rfl)
  refine opensF1 rfl ?_
  exact opensI Tryz.underlying22 (by kernel_rfl)
structure CertD where
  seq : Int
  digest : Int
  signs : List (SignD)
def tCert : Ty CertD := tM (tP tI (tP tI (tL tSign))) (fun s : CertD => (s.seq, s.digest, s.signs))
theorem open_Cert : Opens Tryz.prog 29 tCert := by
  refine opensT (fun p => ⟨p.1, p.2.1, p.2.2⟩) (fun _ => rfl) Tryz.underlying29 ?_ (by kernel_rfl)
  simp only
  refine opensFc (o' := 1) rfl rfl ?_ ?_
  · exact opensI Tryz.underlying2 (by kernel_rfl)
  refine opensFc (o' := 2) rfl rfl ?_ ?_
  · exact opensI Tryz.underlying22 (by kernel_rfl)
  refine opensF1 rfl ?_
  refine opensL Tryz.underlying27 ?_ (by decide) (by kernel_rfl)
  exact open_Sign
structure PreparedD where
  view : Int
  seq : Int
  digest : Int
  firstS : SignD
  signs : List (SignD)
  batch : List (SignedD)
def tPrepared : Ty PreparedD := tM (tP tI (tP tI (tP tI (tP tSign (tP (tL tSign) (tL tSigned)))))) (fun s : PreparedD => (s.view, s.seq, s.digest, s.firstS, s.signs, s.batch))
theorem open_Prepared : Opens Tryz.prog 75 tPrepared := by
  refine opensT (fun p => ⟨p.1, p.2.1, p.2.2.1, p.2.2.2.1, p.2.2.2.2.1, p.2.2.2.2.2⟩) (fun _ => rfl) Tryz.underlying75 ?_ (by kernel_rfl)
  simp only
  refine opensFc (o' := 1) rfl rfl ?_ ?_
  · exact opensI Tryz.underlying2 (by kernel_rfl)
  refine opensFc (o' := 2) rfl rfl ?_ ?_
  · exact opensI Tryz.underlying2 (by kernel_rfl)
  refine opensFc (o' := 3) rfl rfl ?_ ?_
  · exact opensI Tryz.underlying22 (by kernel_rfl)
  refine opensFc (o' := 5) rfl rfl ?_ ?_
  · exact open_Sign
  refine opensFc (o' := 6) rfl rfl ?_ ?_
  · refine opensL Tryz.underlying27 ?_ (by decide) (by kernel_rfl)
    exact open_Sign
  refine opensF1 rfl ?_
  refine opensL Tryz.underlying60 ?_ (by decide) (by kernel_rfl)
  exact open_Signed
structure ChangeD where
  view : Int
  src : Int
  cert : CertD
  above : List (PreparedD)
  sign : SignD
def tChange : Ty ChangeD := tM (tP tI (tP tI (tP tCert (tP (tL tPrepared) tSign)))) (fun s : ChangeD => (s.view, s.src, s.cert, s.above, s.sign))
theorem open_Change : Opens Tryz.prog 77 tChange := by
  refine opensT (fun p => ⟨p.1, p.2.1, p.2.2.1, p.2.2.2.1, p.2.2.2.2⟩) (fun _ => rfl) Tryz.underlying77 ?_ (by kernel_rfl)
  simp only
  refine opensFc (o' := 1) rfl rfl ?_ ?_
  · exact opensI Tryz.underlying2 (by kernel_rfl)
  refine opensFc (o' := 2) rfl rfl ?_ ?_
  · exact opensI Tryz.underlying3 (by kernel_rfl)
  refine opensFc (o' := 5) rfl rfl ?_ ?_
  · exact open_Cert
  refine opensFc (o' := 6) rfl rfl ?_ ?_
  · refine opensL Tryz.underlying36 ?_ (by decide) (by kernel_rfl)
    exact open_Prepared
  refine opensF1 rfl ?_
  exact open_Sign
structure EntryD where
  view : Int
  seq : Int
  batch : List (SignedD)
  sign : SignD
def tEntry : Ty EntryD := tM (tP tI (tP tI (tP (tL tSigned) tSign))) (fun s : EntryD => (s.view, s.seq, s.batch, s.sign))
theorem open_Entry : Opens Tryz.prog 225 tEntry := by
  refine opensT (fun p => ⟨p.1, p.2.1, p.2.2.1, p.2.2.2⟩) (fun _ => rfl) Tryz.underlying225 ?_ (by kernel_rfl)
  simp only
  refine opensFc (o' := 1) rfl rfl ?_ ?_
  · exact opensI Tryz.underlying2 (by kernel_rfl)
  refine opensFc (o' := 2) rfl rfl ?_ ?_
  · exact opensI Tryz.underlying2 (by kernel_rfl)
  refine opensFc (o' := 3) rfl rfl ?_ ?_
  · refine opensL Tryz.underlying60 ?_ (by decide) (by kernel_rfl)
    exact open_Signed
  refine opensF1 rfl ?_
  exact open_Sign
structure ProofD where
  topic : List UInt8
  offset : Int
  record : List UInt8
  headers : List (HeaderD)
  index : Int
  count : Int
  path : List (Int)
  cert : CertD
def tProof : Ty ProofD := tM (tP tS (tP tI (tP tY (tP (tL tHeader) (tP tI (tP tI (tP (tL tI) tCert))))))) (fun s : ProofD => (s.topic, s.offset, s.record, s.headers, s.index, s.count, s.path, s.cert))
theorem open_Proof : Opens Tryz.prog 120 tProof := by
  refine opensT (fun p => ⟨p.1, p.2.1, p.2.2.1, p.2.2.2.1, p.2.2.2.2.1, p.2.2.2.2.2.1, p.2.2.2.2.2.2.1, p.2.2.2.2.2.2.2⟩) (fun _ => rfl) Tryz.underlying120 ?_ (by kernel_rfl)
  simp only
  refine opensFc (o' := 1) rfl rfl ?_ ?_
  · exact opensS Tryz.underlying9 (by kernel_rfl)
  refine opensFc (o' := 2) rfl rfl ?_ ?_
  · exact opensI Tryz.underlying2 (by kernel_rfl)
  refine opensFc (o' := 3) rfl rfl ?_ ?_
  · exact opensY Tryz.underlying69 Tryz.underlying5 (by kernel_rfl) (by kernel_rfl)
  refine opensFc (o' := 4) rfl rfl ?_ ?_
  · refine opensL Tryz.underlying117 ?_ (by decide) (by kernel_rfl)
    exact open_Header
  refine opensFc (o' := 5) rfl rfl ?_ ?_
  · exact opensI Tryz.underlying3 (by kernel_rfl)
  refine opensFc (o' := 6) rfl rfl ?_ ?_
  · exact opensI Tryz.underlying3 (by kernel_rfl)
  refine opensFc (o' := 7) rfl rfl ?_ ?_
  · refine opensL Tryz.underlying118 ?_ (by decide) (by kernel_rfl)
    exact opensI Tryz.underlying22 (by kernel_rfl)
  refine opensF1 rfl ?_
  exact open_Cert
structure MsgD where
  kind : Int
  src : Int
  view : Int
  seq : Int
  digest : Int
  client : Int
  time : Int
  result : ResultD
  batch : List (SignedD)
  cert : CertD
  changes : List (ChangeD)
  entries : List (EntryD)
  state : List UInt8
  topic : List UInt8
  offset : Int
  proof : ProofD
  sign : SignD
def tMsg : Ty MsgD := tM (tP tI (tP tI (tP tI (tP tI (tP tI (tP tI (tP tI (tP tResult (tP (tL tSigned) (tP tCert (tP (tL tChange) (tP (tL tEntry) (tP tY (tP tS (tP tI (tP tProof tSign)))))))))))))))) (fun s : MsgD => (s.kind, s.src, s.view, s.seq, s.digest, s.client, s.time, s.result, s.batch, s.cert, s.changes, s.entries, s.state, s.topic, s.offset, s.proof, s.sign))
theorem open_Msg : Opens Tryz.prog 122 tMsg := by
  refine opensT (fun p => ⟨p.1, p.2.1, p.2.2.1, p.2.2.2.1, p.2.2.2.2.1, p.2.2.2.2.2.1, p.2.2.2.2.2.2.1, p.2.2.2.2.2.2.2.1, p.2.2.2.2.2.2.2.2.1, p.2.2.2.2.2.2.2.2.2.1, p.2.2.2.2.2.2.2.2.2.2.1, p.2.2.2.2.2.2.2.2.2.2.2.1, p.2.2.2.2.2.2.2.2.2.2.2.2.1, p.2.2.2.2.2.2.2.2.2.2.2.2.2.1, p.2.2.2.2.2.2.2.2.2.2.2.2.2.2.1, p.2.2.2.2.2.2.2.2.2.2.2.2.2.2.2.1, p.2.2.2.2.2.2.2.2.2.2.2.2.2.2.2.2⟩) (fun _ => rfl) Tryz.underlying122 ?_ (by kernel_rfl)
  simp only
  refine opensFc (o' := 1) rfl rfl ?_ ?_
  · exact opensI Tryz.underlying3 (by kernel_rfl)
  refine opensFc (o' := 2) rfl rfl ?_ ?_
  · exact opensI Tryz.underlying3 (by kernel_rfl)
  refine opensFc (o' := 3) rfl rfl ?_ ?_
  · exact opensI Tryz.underlying2 (by kernel_rfl)
  refine opensFc (o' := 4) rfl rfl ?_ ?_
  · exact opensI Tryz.underlying2 (by kernel_rfl)
  refine opensFc (o' := 5) rfl rfl ?_ ?_
  · exact opensI Tryz.underlying22 (by kernel_rfl)
  refine opensFc (o' := 6) rfl rfl ?_ ?_
  · exact opensI Tryz.underlying3 (by kernel_rfl)
  refine opensFc (o' := 7) rfl rfl ?_ ?_
  · exact opensI Tryz.underlying2 (by kernel_rfl)
  refine opensFc (o' := 9) rfl rfl ?_ ?_
  · exact open_Result
  refine opensFc (o' := 10) rfl rfl ?_ ?_
  · refine opensL Tryz.underlying60 ?_ (by decide) (by kernel_rfl)
    exact open_Signed
  refine opensFc (o' := 13) rfl rfl ?_ ?_
  · exact open_Cert
  refine opensFc (o' := 14) rfl rfl ?_ ?_
  · refine opensL Tryz.underlying37 ?_ (by decide) (by kernel_rfl)
    exact open_Change
  refine opensFc (o' := 15) rfl rfl ?_ ?_
  · refine opensL Tryz.underlying116 ?_ (by decide) (by kernel_rfl)
    exact open_Entry
  refine opensFc (o' := 16) rfl rfl ?_ ?_
  · exact opensY Tryz.underlying26 Tryz.underlying5 (by kernel_rfl) (by kernel_rfl)
  refine opensFc (o' := 17) rfl rfl ?_ ?_
  · exact opensS Tryz.underlying9 (by kernel_rfl)
  refine opensFc (o' := 18) rfl rfl ?_ ?_
  · exact opensI Tryz.underlying2 (by kernel_rfl)
  refine opensFc (o' := 28) rfl rfl ?_ ?_
  · exact open_Proof
  refine opensF1 rfl ?_
  exact open_Sign
structure VoteD where
  seq : Int
  digest : Int
  sign : SignD
def tVote : Ty VoteD := tM (tP tI (tP tI tSign)) (fun s : VoteD => (s.seq, s.digest, s.sign))
theorem open_Vote : Opens Tryz.prog 86 tVote := by
  refine opensT (fun p => ⟨p.1, p.2.1, p.2.2⟩) (fun _ => rfl) Tryz.underlying86 ?_ (by kernel_rfl)
  simp only
  refine opensFc (o' := 1) rfl rfl ?_ ?_
  · exact opensI Tryz.underlying2 (by kernel_rfl)
  refine opensFc (o' := 2) rfl rfl ?_ ?_
  · exact opensI Tryz.underlying22 (by kernel_rfl)
  refine opensF1 rfl ?_
  exact open_Sign
structure PlacedD where
  topic : List UInt8
  offset : Int
  record : List UInt8
def tPlaced : Ty PlacedD := tM (tP tS (tP tI tY)) (fun s : PlacedD => (s.topic, s.offset, s.record))
theorem open_Placed : Opens Tryz.prog 71 tPlaced := by
  refine opensT (fun p => ⟨p.1, p.2.1, p.2.2⟩) (fun _ => rfl) Tryz.underlying71 ?_ (by kernel_rfl)
  simp only
  refine opensFc (o' := 1) rfl rfl ?_ ?_
  · exact opensS Tryz.underlying9 (by kernel_rfl)
  refine opensFc (o' := 2) rfl rfl ?_ ?_
  · exact opensI Tryz.underlying2 (by kernel_rfl)
  refine opensF1 rfl ?_
  exact opensY Tryz.underlying69 Tryz.underlying5 (by kernel_rfl) (by kernel_rfl)
structure VoteOfD where
  digest : Int
  sign : SignD
def tVoteOf : Ty VoteOfD := tM (tP tI tSign) (fun s : VoteOfD => (s.digest, s.sign))
theorem open_VoteOf : Opens Tryz.prog 65 tVoteOf := by
  refine opensT (fun p => ⟨p.1, p.2⟩) (fun _ => rfl) Tryz.underlying65 ?_ (by kernel_rfl)
  simp only
  refine opensFc (o' := 1) rfl rfl ?_ ?_
  · exact opensI Tryz.underlying22 (by kernel_rfl)
  refine opensF1 rfl ?_
  exact open_Sign
structure SlotD where
  seq : Int
  has : Bool
  digest : Int
  firstS : SignD
  batch : List (SignedD)
  prepares : List (VoteOfD)
  commits : List (VoteOfD)
def tSlot : Ty SlotD := tM (tP tI (tP tB (tP tI (tP tSign (tP (tL tSigned) (tP (tL tVoteOf) (tL tVoteOf))))))) (fun s : SlotD => (s.seq, s.has, s.digest, s.firstS, s.batch, s.prepares, s.commits))
theorem open_Slot : Opens Tryz.prog 63 tSlot := by
  refine opensT (fun p => ⟨p.1, p.2.1, p.2.2.1, p.2.2.2.1, p.2.2.2.2.1, p.2.2.2.2.2.1, p.2.2.2.2.2.2⟩) (fun _ => rfl) Tryz.underlying63 ?_ (by kernel_rfl)
  simp only
  refine opensFc (o' := 1) rfl rfl ?_ ?_
  · exact opensI Tryz.underlying2 (by kernel_rfl)
  refine opensFc (o' := 2) rfl rfl ?_ ?_
  · exact opensB Tryz.underlying4 (by kernel_rfl)
  refine opensFc (o' := 3) rfl rfl ?_ ?_
  · exact opensI Tryz.underlying22 (by kernel_rfl)
  refine opensFc (o' := 5) rfl rfl ?_ ?_
  · exact open_Sign
  refine opensFc (o' := 6) rfl rfl ?_ ?_
  · refine opensL Tryz.underlying60 ?_ (by decide) (by kernel_rfl)
    exact open_Signed
  refine opensFc (o' := 7) rfl rfl ?_ ?_
  · refine opensL Tryz.underlying61 ?_ (by decide) (by kernel_rfl)
    exact open_VoteOf
  refine opensF1 rfl ?_
  refine opensL Tryz.underlying61 ?_ (by decide) (by kernel_rfl)
  exact open_VoteOf
structure PointsD where
  stable : CertD
  votes : List (VoteD)
  certs : List (CertD)
def tPoints : Ty PointsD := tM (tP tCert (tP (tL tVote) (tL tCert))) (fun s : PointsD => (s.stable, s.votes, s.certs))
theorem open_Points : Opens Tryz.prog 33 tPoints := by
  refine opensT (fun p => ⟨p.1, p.2.1, p.2.2⟩) (fun _ => rfl) Tryz.underlying33 ?_ (by kernel_rfl)
  simp only
  refine opensFc (o' := 3) rfl rfl ?_ ?_
  · exact open_Cert
  refine opensFc (o' := 4) rfl rfl ?_ ?_
  · refine opensL Tryz.underlying30 ?_ (by decide) (by kernel_rfl)
    exact open_Vote
  refine opensF1 rfl ?_
  refine opensL Tryz.underlying31 ?_ (by decide) (by kernel_rfl)
  exact open_Cert
structure PoolD where
  waiting : List (SignedD)
def tPool : Ty PoolD := tM (tL tSigned) (fun s : PoolD => s.waiting)
theorem open_Pool : Opens Tryz.prog 40 tPool := by
  refine opensT (fun p => ⟨p⟩) (fun _ => rfl) Tryz.underlying40 ?_ (by kernel_rfl)
  simp only
  refine opensF1 rfl ?_
  refine opensL Tryz.underlying38 ?_ (by decide) (by kernel_rfl)
  exact open_Signed
structure TimerD where
  length : Int
  left : Int
def tTimer : Ty TimerD := tM (tP tI tI) (fun s : TimerD => (s.length, s.left))
theorem open_Timer : Opens Tryz.prog 42 tTimer := by
  refine opensT (fun p => ⟨p.1, p.2⟩) (fun _ => rfl) Tryz.underlying42 ?_ (by kernel_rfl)
  simp only
  refine opensFc (o' := 1) rfl rfl ?_ ?_
  · exact opensI Tryz.underlying3 (by kernel_rfl)
  refine opensF1 rfl ?_
  exact opensI Tryz.underlying3 (by kernel_rfl)
structure BlockD where
  header : HeaderD
  batch : List (SignedD)
  placed : List (PlacedD)
def tBlock : Ty BlockD := tM (tP tHeader (tP (tL tSigned) (tL tPlaced))) (fun s : BlockD => (s.header, s.batch, s.placed))
theorem open_Block : Opens Tryz.prog 68 tBlock := by
  refine opensT (fun p => ⟨p.1, p.2.1, p.2.2⟩) (fun _ => rfl) Tryz.underlying68 ?_ (by kernel_rfl)
  simp only
  refine opensFc (o' := 5) rfl rfl ?_ ?_
  · exact open_Header
  refine opensFc (o' := 6) rfl rfl ?_ ?_
  · refine opensL Tryz.underlying60 ?_ (by decide) (by kernel_rfl)
    exact open_Signed
  refine opensF1 rfl ?_
  refine opensL Tryz.underlying66 ?_ (by decide) (by kernel_rfl)
  exact open_Placed
structure MarkD where
  header : HeaderD
  topics : List UInt8
def tMark : Ty MarkD := tM (tP tHeader tY) (fun s : MarkD => (s.header, s.topics))
theorem open_Mark : Opens Tryz.prog 73 tMark := by
  refine opensT (fun p => ⟨p.1, p.2⟩) (fun _ => rfl) Tryz.underlying73 ?_ (by kernel_rfl)
  simp only
  refine opensFc (o' := 5) rfl rfl ?_ ?_
  · exact open_Header
  refine opensF1 rfl ?_
  exact opensY Tryz.underlying26 Tryz.underlying5 (by kernel_rfl) (by kernel_rfl)
structure CoreD where
  view : Int
  active : Bool
  ticks : Int
  floor : Int
  base : HeaderD
  blocks : List (BlockD)
  topics : List UInt8
  points : PointsD
  certs : List (CertD)
  marks : List (MarkD)
  slots : List (SlotD)
  held : List (PreparedD)
  changes : List (ChangeD)
  pool : PoolD
  timer : TimerD
  news : List (MsgD)
  wants : Int
def tCore : Ty CoreD := tM (tP tI (tP tB (tP tI (tP tI (tP tHeader (tP (tL tBlock) (tP tY (tP tPoints (tP (tL tCert) (tP (tL tMark) (tP (tL tSlot) (tP (tL tPrepared) (tP (tL tChange) (tP tPool (tP tTimer (tP (tL tMsg) tI)))))))))))))))) (fun s : CoreD => (s.view, s.active, s.ticks, s.floor, s.base, s.blocks, s.topics, s.points, s.certs, s.marks, s.slots, s.held, s.changes, s.pool, s.timer, s.news, s.wants))
theorem open_Core : Opens Tryz.prog 45 tCore := by
  refine opensT (fun p => ⟨p.1, p.2.1, p.2.2.1, p.2.2.2.1, p.2.2.2.2.1, p.2.2.2.2.2.1, p.2.2.2.2.2.2.1, p.2.2.2.2.2.2.2.1, p.2.2.2.2.2.2.2.2.1, p.2.2.2.2.2.2.2.2.2.1, p.2.2.2.2.2.2.2.2.2.2.1, p.2.2.2.2.2.2.2.2.2.2.2.1, p.2.2.2.2.2.2.2.2.2.2.2.2.1, p.2.2.2.2.2.2.2.2.2.2.2.2.2.1, p.2.2.2.2.2.2.2.2.2.2.2.2.2.2.1, p.2.2.2.2.2.2.2.2.2.2.2.2.2.2.2.1, p.2.2.2.2.2.2.2.2.2.2.2.2.2.2.2.2⟩) (fun _ => rfl) Tryz.underlying45 ?_ (by kernel_rfl)
  simp only
  refine opensFc (o' := 1) rfl rfl ?_ ?_
  · exact opensI Tryz.underlying2 (by kernel_rfl)
  refine opensFc (o' := 2) rfl rfl ?_ ?_
  · exact opensB Tryz.underlying4 (by kernel_rfl)
  refine opensFc (o' := 3) rfl rfl ?_ ?_
  · exact opensI Tryz.underlying2 (by kernel_rfl)
  refine opensFc (o' := 4) rfl rfl ?_ ?_
  · exact opensI Tryz.underlying2 (by kernel_rfl)
  refine opensFc (o' := 9) rfl rfl ?_ ?_
  · exact open_Header
  refine opensFc (o' := 10) rfl rfl ?_ ?_
  · refine opensL Tryz.underlying25 ?_ (by decide) (by kernel_rfl)
    exact open_Block
  refine opensFc (o' := 11) rfl rfl ?_ ?_
  · exact opensY Tryz.underlying26 Tryz.underlying5 (by kernel_rfl) (by kernel_rfl)
  refine opensFc (o' := 16) rfl rfl ?_ ?_
  · exact open_Points
  refine opensFc (o' := 17) rfl rfl ?_ ?_
  · refine opensL Tryz.underlying31 ?_ (by decide) (by kernel_rfl)
    exact open_Cert
  refine opensFc (o' := 18) rfl rfl ?_ ?_
  · refine opensL Tryz.underlying34 ?_ (by decide) (by kernel_rfl)
    exact open_Mark
  refine opensFc (o' := 19) rfl rfl ?_ ?_
  · refine opensL Tryz.underlying35 ?_ (by decide) (by kernel_rfl)
    exact open_Slot
  refine opensFc (o' := 20) rfl rfl ?_ ?_
  · refine opensL Tryz.underlying36 ?_ (by decide) (by kernel_rfl)
    exact open_Prepared
  refine opensFc (o' := 21) rfl rfl ?_ ?_
  · refine opensL Tryz.underlying37 ?_ (by decide) (by kernel_rfl)
    exact open_Change
  refine opensFc (o' := 22) rfl rfl ?_ ?_
  · exact open_Pool
  refine opensFc (o' := 24) rfl rfl ?_ ?_
  · exact open_Timer
  refine opensFc (o' := 25) rfl rfl ?_ ?_
  · refine opensL Tryz.underlying43 ?_ (by decide) (by kernel_rfl)
    exact open_Msg
  refine opensF1 rfl ?_
  exact opensI Tryz.underlying2 (by kernel_rfl)
end Go.Proofs.YteaggenihhaajaaGreat

/- The form of a number, as a list of bytes. Plain; and codec.form. -/
namespace Go.Proofs.YteaggenihhaajaaGreat
open Go.RowKit
set_option linter.unusedVariables false

/-- seven bits a byte, the least first -/
def enc (n : Nat) : List UInt8 := if h : n < 128 then [UInt8.ofNat n] else UInt8.ofNat (n % 128 + 128) :: enc (n / 128)
  termination_by n
  decreasing_by omega
theorem enc_lt {n : Nat} (h : n < 128) : enc n = [UInt8.ofNat n] := by rw [enc, dif_pos h]
theorem enc_ge {n : Nat} (h : ¬ n < 128) : enc n = UInt8.ofNat (n % 128 + 128) :: enc (n / 128) := by rw [enc, dif_neg h]
theorem enc_pos (n : Nat) : 0 < (enc n).length := by
  by_cases h : n < 128
  · rw [enc_lt h]; simp
  · rw [enc_ge h]; simp
theorem enc_le (k : Nat) : ∀ n, n < 128 ^ (k + 1) → (enc n).length ≤ k + 1 := by
  induction k with
  | zero => intro n h; rw [enc_lt (by simpa using h)]; simp
  | succ k ih =>
    intro n h
    by_cases hn : n < 128
    · rw [enc_lt hn]; simp
    · rw [enc_ge hn]
      have := ih (n / 128) (by rw [Nat.div_lt_iff_lt_mul (by omega)]; rw [Nat.pow_succ] at h; exact h)
      simp; omega
theorem enc_10 {n : Nat} (h : n < 18446744073709551616) : (enc n).length ≤ 10 := enc_le 9 n (Nat.lt_of_lt_of_le h (by decide))
theorem orB (m : Nat) : bits BinOp.or IntKind.u8 ((m : Int) % 256) 128 = ((m % 128 + 128 : Nat) : Int) := by
  have h : ∀ k : Fin 256, bits BinOp.or IntKind.u8 ((k.val : Int)) 128 = ((k.val % 128 + 128 : Nat) : Int) := by decide +kernel
  have := h ⟨m % 256, Nat.mod_lt _ (by omega)⟩
  simp only at this
  rw [show ((m : Int) % 256) = ((m % 256 : Nat) : Int) by omega, this]
  congr 1; omega
/-- the cells of an array of ten that begins with bytes -/
def ten (p : List UInt8) : Array Value := (cellsB p ++ List.replicate (10 - p.length) (Value.int IntKind.u8 0)).toArray
theorem ten_size {p : List UInt8} (h : p.length ≤ 10) : (ten p).size = 10 := by simp [ten, cellsB_len]; omega
theorem ten_set {p : List UInt8} (h : p.length < 10) (k : Nat) (hk : k < 256) : (ten p).setIfInBounds p.length (.int .u8 (k : Int)) = ten (p ++ [UInt8.ofNat k]) := by
  apply Array.ext'
  simp only [ten, Array.toList_setIfInBounds, List.length_append, List.length_singleton]
  rw [List.set_append_right _ _ (by rw [cellsB_len]; omega), cellsB_len, Nat.sub_self]
  obtain ⟨j, hj⟩ : ∃ j, 10 - p.length = j + 1 := ⟨10 - p.length - 1, by omega⟩
  rw [hj, show 10 - (p.length + 1) = j by omega, List.replicate_succ, List.set_cons_zero, cellsB_app]
  simp only [List.append_assoc]
  congr 1
  simp [cellsB]
  omega
theorem ten_lit {p : List UInt8} (h : p.length ≤ 10) : ∃ x0 x1 x2 x3 x4 x5 x6 x7 x8 x9 : Int, ten p = #[.int .u8 x0, .int .u8 x1, .int .u8 x2, .int .u8 x3, .int .u8 x4, .int .u8 x5, .int .u8 x6, .int .u8 x7, .int .u8 x8, .int .u8 x9] := by
  have hs := ten_size h
  have hall : ∀ v ∈ (ten p).toList, ∃ x : Int, v = .int .u8 x := by
    intro v hv
    simp only [ten, List.mem_append, cellsB, List.mem_map, List.mem_replicate] at hv
    rcases hv with ⟨b, _, rfl⟩ | ⟨_, rfl⟩
    · exact ⟨_, rfl⟩
    · exact ⟨_, rfl⟩
  obtain ⟨l, hl⟩ : ∃ l, (ten p).toList = l := ⟨_, rfl⟩
  have e : ten p = l.toArray := by rw [← hl]
  rw [hl] at hall
  have hl10 : l.length = 10 := by rw [← hl]; simpa using hs
  match l, hl10 with
  | [a0, a1, a2, a3, a4, a5, a6, a7, a8, a9], _ =>
    obtain ⟨x0, rfl⟩ := hall a0 (by simp)
    obtain ⟨x1, rfl⟩ := hall a1 (by simp)
    obtain ⟨x2, rfl⟩ := hall a2 (by simp)
    obtain ⟨x3, rfl⟩ := hall a3 (by simp)
    obtain ⟨x4, rfl⟩ := hall a4 (by simp)
    obtain ⟨x5, rfl⟩ := hall a5 (by simp)
    obtain ⟨x6, rfl⟩ := hall a6 (by simp)
    obtain ⟨x7, rfl⟩ := hall a7 (by simp)
    obtain ⟨x8, rfl⟩ := hall a8 (by simp)
    obtain ⟨x9, rfl⟩ := hall a9 (by simp)
    exact ⟨x0, x1, x2, x3, x4, x5, x6, x7, x8, x9, e⟩

theorem form_le {n m : Nat} {p : List UInt8} (hp : m * 128 ^ p.length ≤ n) : m ≤ n :=
  Nat.le_trans (Nat.le_mul_of_pos_right m (Nat.one_le_pow _ _ (by omega))) hp
theorem form_more {n m : Nat} {p : List UInt8} (h : n < 18446744073709551616) (hp : m * 128 ^ p.length ≤ n) (hm : 127 < m) : p.length < 9 := by
  rcases Nat.lt_or_ge p.length 9 with h | h
  · exact h
  · have h1 := Nat.pow_le_pow_right (show 0 < 128 by omega) h
    have h2 : 128 * 128 ^ p.length ≤ m * 128 ^ p.length := Nat.mul_le_mul_right _ (by omega)
    have e10 : (128 : Nat) ^ 9 = 9223372036854775808 := by decide
    omega
set_option maxRecDepth 20000 in
set_option maxHeartbeats 1000000 in
theorem form115 (w : World) (n : Nat) (hn : n < 18446744073709551616) : Calls Tryz.prog 213 #[.int .u64 (n : Int)] w fun e w' => e = .returned (.tuple #[.agg (ten (enc n)), .int .i64 ((enc n).length : Int)]) ∧ B w w' := by
  have HN := Lib.hid hn
  have hz : ten [] = #[.int .u8 0, .int .u8 0, .int .u8 0, .int .u8 0, .int .u8 0, .int .u8 0, .int .u8 0, .int .u8 0, .int .u8 0, .int .u8 0] := rfl
  have k1 : Blk ((w.alloc (.cells (ten []) 288)).alloc (.cells (ten []) 288)) w.heap.size 288 (ten []) := (Blk.new w _ _).alloc _
  have k2 : Blk ((w.alloc (.cells (ten []) 288)).alloc (.cells (ten []) 288)) (w.heap.size + 1) 288 (ten []) := by simpa using Blk.new (w.alloc (.cells (ten []) 288)) 288 (ten [])
  have k3 : B w ((w.alloc (.cells (ten []) 288)).alloc (.cells (ten []) 288)) := (B.alloc' _ _).trans (B.alloc' _ _)
  rw [hz] at k1 k2 k3
  clear hz hn
  go_enter Tryz.func213, Tryz.ntmps213
  go_wp2_with fail
  rw [← show ten [] = #[Value.int IntKind.u8 0, .int .u8 0, .int .u8 0, .int .u8 0, .int .u8 0, .int .u8 0, .int .u8 0, .int .u8 0, .int .u8 0, .int .u8 0] from rfl] at k1 k2 k3
  go_loopw [0, 5] (fun x k wr => ∃ (m q : Nat) (p : List UInt8), x = .int .u64 (m : Int) ∧ k = .int .i64 (q : Int) ∧ Hid (p.length = q) ∧ Hid (enc n = p ++ enc m) ∧ q < 10 ∧ Hid (m * 128 ^ q ≤ n) ∧ Hid (Blk wr w.heap.size 288 (ten [])) ∧ Hid (Blk wr (w.heap.size + 1) 288 (ten p)) ∧ Hid (B w wr)) (fun x _ _ => (intOf x).toNat)
  case atStart => exact ⟨n, 0, [], rfl, rfl, rfl, rfl, by omega, by show n * 128 ^ 0 ≤ n; omega, k1, k2, k3⟩
  case round =>
    obtain ⟨m, q, p, rfl, rfl, HL, HE, hq, HP, H1, H2, H3⟩ := hrel
    clear k1 k2 k3
    have hmn := Lib.hid (form_le (p := p) (by rw [HL.out]; exact HP.out))
    have hsz := Lib.hid (ten_size (p := p) (by rw [HL.out]; omega))
    have c3 := H2.out.frozen q
    obtain ⟨cv, c2⟩ : ∃ cv, wr.cell? ⟨w.heap.size + 1, q, none⟩ = some cv := by
      rw [H2.out.cell]
      exact ⟨(ten p)[q]'(by rw [hsz.out]; omega), Array.getElem?_eq_getElem _⟩
    have hqi : (q : Int) < 10 := by omega
    by_cases hm : 127 < m
    · have hpl := Lib.hid (form_more (p := p) HN.out (by rw [HL.out]; exact HP.out) hm)
      go_wp2_with fail
      go_roundw
      case rel =>
        have hq9 : q < 9 := by have := hpl.out; have := HL.out; omega
        refine ⟨m / 128, q + 1, p ++ [UInt8.ofNat (m % 128 + 128)], by go_num, by go_num, ?_, ?_, by omega, ?_, H1.out.far (by simp) _, ?_, H3.out.setCell (by simp) _⟩
        · show (p ++ [_]).length = q + 1
          rw [List.length_append, HL.out]; rfl
        · show enc n = _
          rw [HE.out, enc_ge (by omega), List.append_assoc]; rfl
        · show m / 128 * 128 ^ (q + 1) ≤ n
          rw [Nat.pow_succ, Nat.mul_comm (128 ^ q) 128, ← Nat.mul_assoc]
          exact Nat.le_trans (Nat.mul_le_mul_right _ (Nat.div_mul_le_self m 128)) HP.out
        · show Blk _ _ _ _
          rw [orB]
          have := H2.out.set_ q (.int .u8 ((m % 128 + 128 : Nat) : Int))
          have e := ten_set (p := p) (by rw [HL.out]; omega) (m % 128 + 128) (by omega)
          rw [HL.out] at e
          rwa [e] at this
      case measure => simp [intOf]; omega
    · have hpt := ten_set (p := p) (by rw [HL.out]; omega) m (by omega)
      rw [HL.out] at hpt
      obtain ⟨x0, x1, x2, x3, x4, x5, x6, x7, x8, x9, hx⟩ := ten_lit (p := p ++ [UInt8.ofNat m]) (by simp; rw [HL.out]; omega)
      have HX := Lib.hid hx
      have HEN := Lib.hid (show enc n = p ++ [UInt8.ofNat m] by rw [HE.out, enc_lt (by omega)])
      have HT := Lib.hid (show Blk (wr.setCell ⟨w.heap.size + 1, q, none⟩ (.int .u8 (m : Int))) (w.heap.size + 1) 288 #[.int .u8 x0, .int .u8 x1, .int .u8 x2, .int .u8 x3, .int .u8 x4, .int .u8 x5, .int .u8 x6, .int .u8 x7, .int .u8 x8, .int .u8 x9] from by
        have := H2.out.set_ q (.int .u8 (m : Int)); rwa [hpt, hx] at this)
      have HZ := Lib.hid (show Blk (wr.setCell ⟨w.heap.size + 1, q, none⟩ (.int .u8 (m : Int))) w.heap.size 288 #[.int .u8 0, .int .u8 0, .int .u8 0, .int .u8 0, .int .u8 0, .int .u8 0, .int .u8 0, .int .u8 0, .int .u8 0, .int .u8 0] from H1.out.far (by simp) _)
      have HB := Lib.hid (show B w (wr.setCell ⟨w.heap.size + 1, q, none⟩ (.int .u8 (m : Int))) from H3.out.setCell (by simp) _)
      have hm256 : (m : Int) % 256 = m := by omega
      clear hpt hx
      go_wp2_with (refine wpList_load_row rfl 288 (.tmp 4) rfl (w.heap.size + 1) rfl 288 #[.int .u8 x0, .int .u8 x1, .int .u8 x2, .int .u8 x3, .int .u8 x4, .int .u8 x5, .int .u8 x6, .int .u8 x7, .int .u8 x8, .int .u8 x9] (0, 0) _ HT.out Tryz.underlying288 rfl (by kernel_rfl) ?_; have cz := fun i => HZ.out.cell i; have fz := fun i => HZ.out.frozen i; have HS := Lib.hid HB.out; generalize wr.setCell ⟨w.heap.size + 1, q, none⟩ (.int .u8 (m : Int)) = wz at *)
      refine bodyPost_ret (v := .tuple #[.agg #[.int .u8 x0, .int .u8 x1, .int .u8 x2, .int .u8 x3, .int .u8 x4, .int .u8 x5, .int .u8 x6, .int .u8 x7, .int .u8 x8, .int .u8 x9], .int .i64 ((q : Int) + 1)]) (by simp [results, Tryz.results213, go_sem, cz]) rfl ⟨?_, ?_⟩
      · rw [← HX.out, ← HEN.out]
        have e : ((q : Int) + 1) = ((enc n).length : Int) := by rw [HEN.out, List.length_append, HL.out]; simp
        rw [e]
      · repeat (refine Below.setCell ?_ (by simp) _)
        exact HB.out
end Go.Proofs.YteaggenihhaajaaGreat

/- What codec and its reference put: numbers, byte strings, lists. -/
namespace Go.Proofs.YteaggenihhaajaaGreat
open Go.RowKit
set_option linter.unusedVariables false

/-- a slice with no room behind it -/
def clipV : Value → Value | .slice A n _ => .slice A n n | v => v
set_option maxHeartbeats 400000 in
theorem clip116 {w : World} {v : Value} {bs : List UInt8} (h : Bs w v bs) : Calls Tryz.prog 214 #[v] w fun e w' => e = .returned (clipV v) ∧ w = w' := by
  obtain ⟨⟨A, cap, rfl, hn, hc, hm, hr⟩, hl⟩ := h
  have hm' : bs.length ≤ 9223372036854775807 := by unfold maxLen at hm; omega
  have hci : (bs.length : Int) ≤ (cap : Int) := by omega
  cases A with
  | none =>
    obtain ⟨rfl, rfl⟩ := hn rfl
    clear hr hn hc hm hl
    go_enter Tryz.func214, Tryz.ntmps214
    go_wp2
    go_ret
    exact ⟨rfl, rfl⟩
  | some ad =>
    clear hr hn hm hl
    go_enter Tryz.func214, Tryz.ntmps214
    go_wp2
    go_ret
    exact ⟨rfl, rfl⟩
/-- append where there is no room: a new row -/
theorem append_clip {P : Program} {t ty : TypeId} {w : World} {v u : Value} {bs news : List UInt8} (ht : P.underlying t = some (.slice 5)) (hi5 : (P.info? 5).map (fun i => (i.zero, i.size, i.bytes)) = some (some (.int .u8 0), 1, 1))
    (hv : Bs w v bs) (hu : Rd w u news.length 1 (cellsB news)) (hm : 0 < news.length) (hroom : bs.length + news.length ≤ big) :
    ∃ v' w', (Builtin.append_ #[t, t] ty #[clipV v, u]).run P w = .ok v' w' ∧ w'.ownsRow w.heap.size 5 1 v' (bs ++ news).length (cellsB (bs ++ news)) ∧ B w w' := by
  obtain ⟨⟨A, cap, rfl, hn, hc, hmx, hr⟩, hl⟩ := hv
  have hb1 : bs.length + news.length ≤ maxLen := by unfold big at hroom; unfold maxLen; omega
  have hb2 : (bs.length + news.length) * 1 ≤ 140737488355328 := by unfold big at hroom; omega
  cases A with
  | none =>
    obtain ⟨rfl, rfl⟩ := hn rfl
    obtain ⟨v', w', h1, h2, h3, h4⟩ := append_Rd (P := P) (t := t) (ty := ty) ht hi5 rfl Nat.zero_lt_one (ownNil w w.heap.size 5 1) hu (cellsB_one _) (by simpa using hb1) (by simpa using hb2) (Nat.le_refl _)
    exact ⟨v', w', h1, by simpa using h2, B.grown (Below.refl _ _) h3 (fun k hk => by simp [Value.ownBlock] at hk)⟩
  | some ad =>
    obtain ⟨i, hi, hz0, hs, hby⟩ := info_parts hi5
    obtain ⟨hul, A', c', rfl, hn', hc', hr'⟩ := hu
    cases A' with
    | none => have := (hn' rfl).1; omega
    | some ad' =>
      obtain ⟨v', w', h1, h2, h3⟩ := run_append_arg_grows (P := P) w t ty 5 i (.int .u8 0) 1 1 ht hi hz0 hs hby rfl Nat.zero_lt_one ad bs.length bs.length (cellsB bs) (by rw [cellsB_len]; omega) (hr ad rfl).2 ad' news.length c' (cellsB news) (by rw [cellsB_len]; omega) (hr' ad' rfl).2 (by omega) hb1 hb2
      exact ⟨v', w', h1, by rw [List.length_append, cellsB_app]; exact h2, B.grown (Below.refl _ _) h3 (fun k hk => by cases hk)⟩
theorem ten_rd {w : World} {g : Nat} {p : List UInt8} (hp : p.length ≤ 10) (h : Blk w g 288 (ten p)) : Rd w (.slice (some ⟨g, 0, none⟩) p.length 10) p.length 1 (cellsB p) := by
  refine ⟨by rw [cellsB_len]; omega, _, 10, rfl, fun e => (by cases e), hp, fun ad had => ?_⟩
  cases had
  refine ⟨fun _ => h.lt, fun j x hx => ?_⟩
  have ea : (⟨g, 0, none⟩ : Addr).add j = ⟨g, j, none⟩ := by unfold Addr.add; split <;> simp_all
  rw [ea, h.cell, ← hx]
  have hj : j < (cellsB p).length := by
    rcases Nat.lt_or_ge j (cellsB p).length with h | h
    · exact h
    · rw [List.getElem?_eq_none h] at hx; cases hx
  simp only [ten, List.getElem?_toArray]
  rw [List.getElem?_append_left hj]

set_option maxRecDepth 20000 in
set_option maxHeartbeats 1000000 in
theorem putNum70 {w : World} {v : Value} {bs : List UInt8} (h : Bs w v bs) (n : Nat) (hn : n < 18446744073709551616) (hl : bs.length + 10 ≤ big) : Calls Tryz.prog 151 #[v, .int .u64 (n : Int)] w (Fresh w (bs ++ enc n)) := by
  have H := Lib.hid h
  have HF := Lib.hid (form115 w n hn)
  have HE := Lib.hid (enc_10 hn)
  have HL := Lib.hid hl
  obtain ⟨x0, x1, x2, x3, x4, x5, x6, x7, x8, x9, hx⟩ := ten_lit (p := enc n) (enc_10 hn)
  have HX := Lib.hid hx
  have hq : (enc n).length ≤ 10 := enc_10 hn
  have hqi : ((enc n).length : Int) ≤ 10 := by omega
  clear h hn hl hx
  go_enter Tryz.func151, Tryz.ntmps151
  go_wp2_with (go_at_call 213; refine HF.out.mono ?_; rintro e w1 ⟨rfl, hb1⟩; rw [HX.out])
  have hb2 := hb1.trans (B.alloc' w1 (.cells #[.int .u8 x0, .int .u8 x1, .int .u8 x2, .int .u8 x3, .int .u8 x4, .int .u8 x5, .int .u8 x6, .int .u8 x7, .int .u8 x8, .int .u8 x9] 288))
  have hk : Blk (w1.alloc (.cells #[.int .u8 x0, .int .u8 x1, .int .u8 x2, .int .u8 x3, .int .u8 x4, .int .u8 x5, .int .u8 x6, .int .u8 x7, .int .u8 x8, .int .u8 x9] 288)) w1.heap.size 288 #[.int .u8 x0, .int .u8 x1, .int .u8 x2, .int .u8 x3, .int .u8 x4, .int .u8 x5, .int .u8 x6, .int .u8 x7, .int .u8 x8, .int .u8 x9] := Blk.new w1 _ _
  generalize w1.alloc (.cells #[.int .u8 x0, .int .u8 x1, .int .u8 x2, .int .u8 x3, .int .u8 x4, .int .u8 x5, .int .u8 x6, .int .u8 x7, .int .u8 x8, .int .u8 x9] 288) = w2 at *
  have hk' : Blk w2.drew w1.heap.size 288 (ten (enc n)) := by rw [HX.out]; exact hk
  obtain ⟨v', w3, hrun, h2, h3⟩ := append_clip (P := Tryz.prog) (t := 26) (ty := 26) Tryz.underlying26 info5 (H.out.later (hb2.trans (Below.refl _ _).drew)) (ten_rd HE.out hk') (enc_pos n) (by have := HE.out; have := HL.out; omega)
  have HC := Lib.hid (clip116 (H.out.later (hb2.trans (Below.refl _ _).drew)))
  have HB := Lib.hid (hb2.trans ((Below.refl _ _).drew.trans h3))
  have hs2 := hb2.size
  have HO := Lib.hid (row_base h2 (show w.heap.size ≤ w2.drew.heap.size from hs2))
  clear hk hk' h2 h3 hb1 hb2 hs2
  go_region_law (first
    | (refine step_call rfl 214 #[.tmp 12] #[26] rfl Tryz.call214 HC.out rfl ?_; rintro e wn ⟨rfl, rfl⟩; refine ⟨_, rfl, ?_⟩)
    | (refine step_append_run rfl (.tmp 13) (.tmp 15) 26 rfl rfl rfl hrun ?_))
  all_goals
    go_wp2_with fail
    go_ret
    exact ⟨v', rfl, HO.out, HB.out⟩
end Go.Proofs.YteaggenihhaajaaGreat

/- What codec and its reference put: byte strings, lists; how long a number's form is. -/
namespace Go.Proofs.YteaggenihhaajaaGreat
open Go.RowKit
set_option linter.unusedVariables false

theorem Fresh.mk {w w' : World} {bs : List UInt8} {v : Value} {n : Nat} {xs : List Value} (h : w'.ownsRow w.heap.size 5 1 v n xs) (hn : n = bs.length) (hx : xs = cellsB bs) (hb : B w w') : Fresh w bs (.returned v) w' := by
  subst hn hx; exact ⟨v, rfl, h, hb⟩
/-- append onto a row of the call's own: the bytes behind it -/
theorem Fresh.app {w w1 w2 : World} {z xs : List UInt8} {A1 A2 : Option Addr} {c1 c2 : Nat} (r1 : w1.ownsRow w.heap.size 5 1 (.slice A1 z.length c1) z.length (cellsB z)) (hb : B w w1)
    (r2 : w2.ownsRow w.heap.size 5 1 (.slice A2 (z.length + xs.length) c2) (z.length + xs.length) (cellsB z ++ cellsB xs)) (x2 : w1.grownBy w2 (Value.slice A1 z.length c1).ownBlock) : Fresh w (z ++ xs) (.returned (.slice A2 (z.length + xs.length) c2)) w2 :=
  Fresh.mk r2 (by simp) (by rw [cellsB_app]) (B.grown hb x2 (fun k hk => row_ge r1 hk))

theorem u64_id {x : Int} (h : 0 ≤ x ∧ x < 18446744073709551616) : IntKind.u64.wrap x = x := by
  simp [IntKind.wrap, IntKind.signed, IntKind.bits]; omega
def putB (bs xs : List UInt8) : List UInt8 := bs ++ enc xs.length ++ xs
set_option maxHeartbeats 1000000 in
theorem putBytes72 {w : World} {v u : Value} {bs xs : List UInt8} (h : Bs w v bs) (k : Bs w u xs) (hl : (bs ++ xs).length + 10 ≤ big) : Calls Tryz.prog 157 #[v, u] w (Fresh w (putB bs xs)) := by
  have hxl : xs.length < 18446744073709551616 := by have := k.len; unfold big at this; omega
  have hl' : bs.length + 10 + xs.length ≤ big := by simp at hl; omega
  have HP := Lib.hid (putNum70 h xs.length hxl (by omega))
  have h10 := enc_10 hxl
  have HK := Lib.hid k
  obtain ⟨z, hz⟩ : ∃ z, z = bs ++ enc xs.length := ⟨_, rfl⟩
  have hzl : z.length ≤ bs.length + 10 := by rw [hz, List.length_append]; omega
  rw [← hz] at HP
  have g1 : z.length + xs.length ≤ maxLen := by unfold big at hl'; unfold maxLen; omega
  have g2 : (z.length + xs.length) * 1 ≤ 140737488355328 := by unfold big at hl'; omega
  have o1 := cellsB_one xs
  have HZ := Lib.hid (show putB bs xs = z ++ xs by rw [hz]; rfl)
  have hxi : (xs.length : Int) ≤ 140737488355328 := by have := k.len; unfold big at this; omega
  rw [HZ.out]
  obtain ⟨B0, cp, rfl⟩ := HK.out.rd.slice
  clear h k hl hl' h10 hz hzl hxl
  go_enter Tryz.func157, Tryz.ntmps157
  go_wp2_with (first
    | (go_at_call 151; (with_reducible refine HP.out.mono ?_); rintro e w1 ⟨v1, rfl, r1, hb1⟩; obtain ⟨A1, c1, rfl⟩ := own_slice r1; have hb1s := hb1.size)
    | (at_builtin; refine wpList_append_Rd rfl (.tmp 9) (.tmp 10) 26 rfl Tryz.underlying26 info5 rfl Nat.zero_lt_one rfl rfl r1 (HK.out.later hb1).rd o1 g1 g2 hb1s ?_; intro A2 c2 w2 r2 x2 y2))
  go_ret
  exact Fresh.app r1 hb1 r2 x2

end Go.Proofs.YteaggenihhaajaaGreat

/- Byte slices cut; which number bytes say. -/
namespace Go.Proofs.YteaggenihhaajaaGreat
open Go.RowKit Go.Deep
set_option linter.unusedVariables false

/-- which number bytes say: the number, what is left, the error -/
def numGo (most : Nat) : Nat → Nat → List UInt8 → Nat × List UInt8 × Int
  | _, _, [] => (0, [], 10)
  | i, acc, c :: r =>
    if i = 9 ∧ 1 < c.toNat then (0, [], 11)
    else if 127 < c.toNat then numGo most (i + 1) (acc + c.toNat % 128 * 128 ^ i) r
    else if (0 < i ∧ c.toNat = 0) ∨ most < acc + c.toNat * 128 ^ i then (0, [], 11)
    else (acc + c.toNat * 128 ^ i, r, 0)
end Go.Proofs.YteaggenihhaajaaGreat

/- The reader of codec: its place in memory; stuck, Fail, Err, Left, Done, Read. -/
namespace Go.Proofs.YteaggenihhaajaaGreat
open Go.RowKit
set_option linter.unusedVariables false

set_option maxHeartbeats 400000 in
theorem clone63 {w : World} {v : Value} {bs : List UInt8} (h : Bs w v bs) : Calls Tryz.prog 79 #[v] w (ClonePost w bs) := by
  rcases h.isNil with ⟨rfl, rfl⟩ | ⟨ad, cap, rfl⟩
  · have q : ∀ w, (binOp .eql 26 (.slice none 0 0) (.slice none 0 0)).run Tryz.prog w = .ok (.bool true) w := fun w => by kernel_rfl
    have E := Lib.hid (show ClonePost w [] (.returned (.slice none 0 0)) w from ⟨_, rfl, ownNil w _ _ _, Below.refl _ _⟩)
    clear h
    go_enter Tryz.func79, Tryz.ntmps79
    go_wp2
    go_ret
    exact E.out
  · have q : ∀ w, (binOp .eql 26 (.slice (some ad) bs.length cap) (.slice none 0 0)).run Tryz.prog w = .ok (.bool false) w := fun w => by kernel_rfl
    have hb : B w (w.alloc (.cells #[] 5)) := B.alloc' _ _
    have ho : (w.alloc (.cells #[] 5)).ownsRow w.heap.size 5 1 (.slice (some ⟨w.heap.size, 0, none⟩) 0 0) ([] : List UInt8).length (cellsB []) := ⟨rfl, .inr ⟨_, 0, #[], rfl, Nat.le_refl _, heap_alloc_new w _, Nat.le_refl _, by unfold maxLen; omega, rfl, rfl⟩⟩
    obtain ⟨v', w', hrun, h2, h3, h4⟩ := append_Bs (P := Tryz.prog) (t := 26) (ty := 47) Tryz.underlying26 info5 ho (h.later hb) (by have := h.len; simpa using this) (by simp)
    have E := Lib.hid (show ClonePost w bs (.returned v') w' from ⟨_, rfl, h2, hb.grown h3 (fun k hk => by simp [Value.ownBlock] at hk; omega)⟩)
    clear h ho h2 h3 h4 hb
    go_enter Tryz.func79, Tryz.ntmps79
    go_wp2_with (at_builtin; refine wpList_append_run rfl (.tmp 5) (.tmp 6) 26 rfl rfl rfl hrun ?_)
    go_ret
    exact E.out
section
variable {W w : World} {p : Nat} {bs : List UInt8} {e : Int} {L : List Asn}
end
end Go.Proofs.YteaggenihhaajaaGreat

/- Num of codec's reader. -/
namespace Go.Proofs.YteaggenihhaajaaGreat
open Go.RowKit
set_option linter.unusedVariables false

theorem andB (y : Nat) (h : y < 256) : bits BinOp.and IntKind.u8 (y : Int) 127 = ((y % 128 : Nat) : Int) := by
  have h' : ∀ k : Fin 256, bits BinOp.and IntKind.u8 ((k.val : Int)) 127 = ((k.val % 128 : Nat) : Int) := by decide +kernel
  exact h' ⟨y, h⟩
theorem or64 (a e : Nat) (ha : a < 18446744073709551616) (he : e < 18446744073709551616) : bits BinOp.or IntKind.u64 (a : Int) (e : Int) = ((a ||| e : Nat) : Int) := by
  have hlt : a ||| e < 2 ^ 64 := Nat.or_lt_two_pow (by omega) (by omega)
  have e0 : bits BinOp.or IntKind.u64 (a : Int) (e : Int) = IntKind.u64.wrap (((BitVec.ofInt 64 (a : Int) ||| BitVec.ofInt 64 (e : Int)).toNat : Nat) : Int) := rfl
  have e1 : (BitVec.ofInt 64 (a : Int)) = BitVec.ofNat 64 a := by simp
  have e2 : (BitVec.ofInt 64 (e : Int)) = BitVec.ofNat 64 e := by simp
  rw [e0, e1, e2, BitVec.toNat_or, BitVec.toNat_ofNat, BitVec.toNat_ofNat, Nat.mod_eq_of_lt (show a < 2 ^ 64 by omega), Nat.mod_eq_of_lt (show e < 2 ^ 64 by omega)]
  exact u64_id (by omega)
/-- one digit more -/
theorem numStep (acc q y : Nat) (hy : y < 256) (hq : q ≤ 9) (ha : acc < 128 ^ q) : ∃ d e s : Nat, IntKind.u64.wrap (bits BinOp.and IntKind.u8 (y : Int) 127) = (d : Int) ∧ IntKind.u64.wrap ((d : Int) * 2 ^ (7 * q)) = (e : Int) ∧ bits BinOp.or IntKind.u64 (acc : Int) (e : Int) = (s : Int) ∧
    ((q < 9 ∨ y ≤ 1) → s = acc + y % 128 * 128 ^ q) := by
  have hp9 : 128 ^ q ≤ 9223372036854775808 := Nat.le_trans (Nat.pow_le_pow_right (by omega) hq) (by decide)
  have hpw : (2 : Nat) ^ (7 * q) = 128 ^ q := by rw [Nat.pow_mul]
  refine ⟨y % 128, y % 128 * 128 ^ q % 18446744073709551616, acc ||| (y % 128 * 128 ^ q % 18446744073709551616), ?_, ?_, ?_, ?_⟩
  · rw [andB y hy, u64_id (by omega)]
  · have : ((y % 128 : Nat) : Int) * 2 ^ (7 * q) = ((y % 128 * 128 ^ q : Nat) : Int) := by rw [← hpw]; push_cast; rfl
    rw [this]
    simp [IntKind.wrap, IntKind.signed, IntKind.bits]
  · exact or64 _ _ (by omega) (Nat.mod_lt _ (by omega))
  · intro h
    have hlt : y % 128 * 128 ^ q < 18446744073709551616 := by
      rcases h with h | h
      · have h8 : 128 ^ q ≤ 72057594037927936 := Nat.le_trans (Nat.pow_le_pow_right (by omega) (show q ≤ 8 by omega)) (by decide)
        have := Nat.mul_le_mul (show y % 128 ≤ 127 by omega) h8
        omega
      · have := Nat.mul_le_mul (show y % 128 ≤ 1 by omega) hp9
        omega
    have ha' : acc < 2 ^ (7 * q) := by rw [hpw]; exact ha
    rw [Nat.mod_eq_of_lt hlt, ← hpw, Nat.or_comm, Nat.mul_comm, ← Nat.two_pow_add_eq_or_of_lt ha', Nat.add_comm]
theorem acc_lt {acc q d : Nat} (ha : acc < 128 ^ q) (hd : d < 128) : acc + d * 128 ^ q < 128 ^ (q + 1) := by
  rw [Nat.pow_succ]
  have := Nat.mul_le_mul_right (128 ^ q) (show d ≤ 127 by omega)
  omega
theorem numGo_more {most i acc : Nat} {c : UInt8} {r : List UInt8} (h : 127 < c.toNat) (h9 : i ≠ 9) : numGo most i acc (c :: r) = numGo most (i + 1) (acc + c.toNat % 128 * 128 ^ i) r := by
  rw [numGo, if_neg (by omega), if_pos h]
theorem numGo_over {most i acc : Nat} {c : UInt8} {r : List UInt8} (h9 : i = 9) (h : 1 < c.toNat) : numGo most i acc (c :: r) = (0, [], 11) := by
  rw [numGo, if_pos ⟨h9, h⟩]
theorem numGo_bad {most i acc : Nat} {c : UInt8} {r : List UInt8} (h : c.toNat ≤ 127) (hb : (0 < i ∧ c.toNat = 0) ∨ most < acc + c.toNat * 128 ^ i) : numGo most i acc (c :: r) = (0, [], 11) := by
  rw [numGo]
  split
  · rfl
  · split
    · omega
    · rfl
theorem numGo_good {most i acc : Nat} {c : UInt8} {r : List UInt8} (h : c.toNat ≤ 127) (h9 : ¬ (i = 9 ∧ 1 < c.toNat)) (hb : ¬ ((0 < i ∧ c.toNat = 0) ∨ most < acc + c.toNat * 128 ^ i)) : numGo most i acc (c :: r) = (acc + c.toNat * 128 ^ i, r, 0) := by
  rw [numGo, if_neg h9, if_neg (by omega), if_neg hb]
section
variable {W w : World} {p : Nat} {bs : List UInt8} {e : Int} {L : List Asn}
end
end Go.Proofs.YteaggenihhaajaaGreat

/- Take, Bytes of codec's reader. -/
namespace Go.Proofs.YteaggenihhaajaaGreat
open Go.RowKit
set_option linter.unusedVariables false

section
variable {W w : World} {p : Nat} {bs : List UInt8} {e : Int} {L : List Asn}
/-- the number is at most what was asked -/
theorem numGo_le (most : Nat) : ∀ (bs : List UInt8) (i acc : Nat), (numGo most i acc bs).1 ≤ most
  | [], _, _ => Nat.zero_le _
  | c :: r, i, acc => by
    unfold numGo
    split
    · exact Nat.zero_le _
    · split
      · exact numGo_le most r _ _
      · split
        · exact Nat.zero_le _
        · rename_i h; show acc + c.toNat * 128 ^ i ≤ most; omega
end
end Go.Proofs.YteaggenihhaajaaGreat

/- List of codec's reader; rows of byte slices appended to. -/
namespace Go.Proofs.YteaggenihhaajaaGreat
open Go.RowKit
set_option linter.unusedVariables false

theorem numGo_len (most : Nat) : ∀ (bs : List UInt8) (i acc : Nat), (numGo most i acc bs).2.1.length ≤ bs.length ∧ ((numGo most i acc bs).2.2 = 0 → (numGo most i acc bs).2.1.length < bs.length)
  | [], _, _ => ⟨by simp [numGo], by simp [numGo]⟩
  | c :: r, i, acc => by
    have ih := numGo_len most r (i + 1) (acc + c.toNat % 128 * 128 ^ i)
    unfold numGo
    split
    · simp
    · split
      · exact ⟨by simp; omega, fun h => by have := ih.2 h; simp; omega⟩
      · split
        · simp
        · simp
section
variable {W w : World} {p : Nat} {bs : List UInt8} {e : Int} {L : List Asn}
end
end Go.Proofs.YteaggenihhaajaaGreat

/- List of codec's reader. -/
namespace Go.Proofs.YteaggenihhaajaaGreat
open Go.RowKit
set_option linter.unusedVariables false

section
variable {W w : World} {p : Nat} {bs : List UInt8} {e : Int} {L : List Asn}
end
end Go.Proofs.YteaggenihhaajaaGreat

/- The reference's reader. -/
namespace Go.Proofs.YteaggenihhaajaaGreat
open Go.RowKit
set_option linter.unusedVariables false

section
variable {W w : World} {p : Nat} {bs : List UInt8} {e : Int} {L : List Asn}
end
end Go.Proofs.YteaggenihhaajaaGreat

/- Num of the reference's reader. -/
namespace Go.Proofs.YteaggenihhaajaaGreat
open Go.RowKit
set_option linter.unusedVariables false

section
variable {W w : World} {p : Nat} {bs : List UInt8} {e : Int} {L : List Asn}
end
end Go.Proofs.YteaggenihhaajaaGreat

/- Take, Bytes, List of the reference's reader. -/
namespace Go.Proofs.YteaggenihhaajaaGreat
open Go.RowKit
set_option linter.unusedVariables false

section
variable {W w : World} {p : Nat} {bs : List UInt8} {e : Int} {L : List Asn}
end
end Go.Proofs.YteaggenihhaajaaGreat

/- What is put is read back, and what is read was put. Plain. -/
namespace Go.Proofs.YteaggenihhaajaaGreat
set_option linter.unusedVariables false

theorem ofNat_toNat (c : UInt8) : UInt8.ofNat c.toNat = c := by simp
theorem num_read (most : Nat) : ∀ (bs : List UInt8) (i acc v : Nat) (rest : List UInt8), numGo most i acc bs = (v, rest, 0) → ∃ d, v = acc + d * 128 ^ i ∧ bs = enc d ++ rest ∧ (0 < i → 0 < d)
  | [], i, acc, v, rest, h => by simp [numGo] at h
  | c :: r, i, acc, v, rest, h => by
    have hc := c.toNat_lt
    unfold numGo at h
    split at h
    · simp at h
    · split at h
      · rename_i h2
        obtain ⟨d, h3, h4, h5⟩ := num_read most r _ _ v rest h
        have hd := h5 (by omega)
        refine ⟨c.toNat % 128 + 128 * d, ?_, ?_, fun _ => by omega⟩
        · rw [h3, Nat.pow_succ, Nat.add_mul]
          have : d * (128 ^ i * 128) = 128 * d * 128 ^ i := by rw [Nat.mul_comm (128 ^ i) 128, ← Nat.mul_assoc, Nat.mul_comm d 128]
          omega
        · rw [enc_ge (by omega), show (c.toNat % 128 + 128 * d) % 128 + 128 = c.toNat by omega, show (c.toNat % 128 + 128 * d) / 128 = d by omega, ofNat_toNat, h4]
          rfl
      · split at h
        · simp at h
        · rename_i h1 h2 h3
          simp only [Prod.mk.injEq] at h
          refine ⟨c.toNat, h.1.symm, ?_, fun hi => by omega⟩
          rw [enc_lt (by omega), ofNat_toNat, h.2.1]
          rfl
theorem num_put (most : Nat) : ∀ (d i acc : Nat) (rest : List UInt8), i ≤ 9 → d * 128 ^ i < 18446744073709551616 → (0 < i → 0 < d) → acc + d * 128 ^ i ≤ most → numGo most i acc (enc d ++ rest) = (acc + d * 128 ^ i, rest, 0) := by
  intro d
  induction d using Nat.strongRecOn with
  | ind d ih =>
    intro i acc rest hi hb h0 hm
    have e9 : (128 : Nat) ^ 9 = 9223372036854775808 := by decide
    by_cases hd : d < 128
    · rw [enc_lt hd]
      have hc : (UInt8.ofNat d).toNat = d := by rw [UInt8.toNat_ofNat']; omega
      have h9 : ¬ (i = 9 ∧ 1 < (UInt8.ofNat d).toNat) := by
        rw [hc]
        rintro ⟨rfl, h⟩
        have := Nat.mul_le_mul_right (128 ^ 9) h
        omega
      show numGo most i acc (UInt8.ofNat d :: rest) = _
      rw [numGo_good (by rw [hc]; omega) h9 (by rw [hc]; rintro (h | h) <;> omega), hc]
    · rw [enc_ge hd]
      have hc : (UInt8.ofNat (d % 128 + 128)).toNat = d % 128 + 128 := by rw [UInt8.toNat_ofNat']; omega
      have h9 : i ≠ 9 := by
        rintro rfl
        have := Nat.mul_le_mul_right (128 ^ 9) (show 128 ≤ d by omega)
        omega
      show numGo most i acc (UInt8.ofNat (d % 128 + 128) :: (enc (d / 128) ++ rest)) = _
      have hs : d % 128 * 128 ^ i + d / 128 * 128 ^ (i + 1) = d * 128 ^ i := by
        rw [Nat.pow_succ, Nat.mul_comm (128 ^ i) 128, ← Nat.mul_assoc, ← Nat.add_mul]
        congr 1; omega
      rw [numGo_more (by rw [hc]; omega) h9, hc, show (d % 128 + 128) % 128 = d % 128 by omega, ih (d / 128) (by omega) (i + 1) _ rest (by omega) (by omega) (fun _ => by omega) (by omega)]
      rw [Nat.add_assoc, hs]
end Go.Proofs.YteaggenihhaajaaGreat
