/- Lemmas and contracts, part 10. -/
import Derived.Test.YtafomdobfmmleaaGreatDoorZb9
import Derived.Test.YtafomdobfmmleaaGreatDoorRows
import Derived.Deep.RegionLaw
import Derived.Deep.Slices
import Derived.Deep.Fields
import Derived.ChangeSame
import Derived.SizedLaws
import Derived.JoinedCond
/- Clones, comparisons of bytes. -/
namespace Go.Proofs.YtafomdobfmmleaaGreatDoor
open Go.ChangeShapes Go.WideShapes Go.ChangeAt Go.RowKit Go.Deep
set_option linter.unusedVariables false
theorem info5 : (Tryz.prog.info? 5).map (fun i => (i.zero, i.size, i.bytes)) = some (some (.int .u8 0), 1, 1) := by kernel_rfl
/-- a fresh copy -/
def ClonePost (w : World) (bs : List UInt8) (e : Ending) (w' : World) : Prop := ∃ v', e = .returned v' ∧ w'.ownsRow w.heap.size 5 1 v' bs.length (cellsB bs) ∧ B w w'
set_option maxHeartbeats 400000 in
theorem clone89 {w : World} {v : Value} {bs : List UInt8} (h : Bs w v bs) : Calls Tryz.prog 153 #[v] w (ClonePost w bs) := by
  rcases h.isNil with ⟨rfl, rfl⟩ | ⟨ad, cap, rfl⟩
  · have q : ∀ w, (binOp .eql 26 (.slice none 0 0) (.slice none 0 0)).run Tryz.prog w = .ok (.bool true) w := fun w => by kernel_rfl
    have E := Lib.hid (show ClonePost w [] (.returned (.slice none 0 0)) w from ⟨_, rfl, ownNil w _ _ _, Below.refl _ _⟩)
    clear h
    go_enter Tryz.func153, Tryz.ntmps153
    go_wp2
    go_ret
    exact E.out
  · have q : ∀ w, (binOp .eql 26 (.slice (some ad) bs.length cap) (.slice none 0 0)).run Tryz.prog w = .ok (.bool false) w := fun w => by kernel_rfl
    have hb : B w (w.alloc (.cells #[] 5)) := B.alloc' _ _
    have ho : (w.alloc (.cells #[] 5)).ownsRow w.heap.size 5 1 (.slice (some ⟨w.heap.size, 0, none⟩) 0 0) ([] : List UInt8).length (cellsB []) := ⟨rfl, .inr ⟨_, 0, #[], rfl, Nat.le_refl _, heap_alloc_new w _, Nat.le_refl _, by unfold maxLen; omega, rfl, rfl⟩⟩
    obtain ⟨v', w', hrun, h2, h3, h4⟩ := append_Bs (P := Tryz.prog) (t := 26) (ty := 47) Tryz.underlying26 info5 ho (h.later hb) (by have := h.len; simpa using this) (by simp)
    have E := Lib.hid (show ClonePost w bs (.returned v') w' from ⟨_, rfl, h2, hb.grown h3 (fun k hk => by simp [Value.ownBlock] at hk; omega)⟩)
    clear h ho h2 h3 h4 hb
    go_enter Tryz.func153, Tryz.ntmps153
    go_wp2_with (at_builtin; refine wpList_append_run rfl (.tmp 5) (.tmp 6) 26 rfl rfl rfl hrun ?_)
    go_ret
    exact E.out
/-- what is put: fresh bytes -/
def Fresh (w : World) (bs : List UInt8) (e : Ending) (w' : World) : Prop := ∃ v', e = .returned v' ∧ w'.ownsRow w.heap.size 5 1 v' bs.length (cellsB bs) ∧ B w w'
section
variable {P : Program} {W w : World} {ops : Array Oper} {rest : List Oper} {o : Oper} {a : Act} {Q : Exit → Act → World → Prop} {L : List Asn}
end
section
variable {P : Program} {W w : World} {ops : Array Oper} {rest : List Oper} {o : Oper} {a : Act} {Q : Exit → Act → World → Prop} {L : List Asn}
theorem Rd.lit (w : World) (cs : Array Value) (t : TypeId) (n : Nat) (hn : cs.size = n) : Rd (w.alloc (.cells cs t)) (.slice (some ⟨w.heap.size, 0, none⟩) n n) n 1 cs.toList := by
  refine ⟨by simp [hn], _, n, rfl, fun e => (by cases e), Nat.le_refl _, fun ad had => ?_⟩
  cases had
  refine ⟨fun _ => by simp, fun j x hx => ?_⟩
  have ea : (⟨w.heap.size, 0, none⟩ : Addr).add j = ⟨w.heap.size, j, none⟩ := by unfold Addr.add; split <;> simp_all
  rw [ea, (Blk.new w t cs).cell]
  simpa using hx
end
section
variable {P : Program} {W w : World} {ops : Array Oper} {rest : List Oper} {o : Oper} {a : Act} {Q : Exit → Act → World → Prop} {L : List Asn}
theorem St.addRow (h : St W w L) {w' : World} (hb : B w w') {v : Value} {e : TypeId} {sz n : Nat} {xs : List Value} (hr : w'.ownsRow w.heap.size e sz v n xs) : St W w' (aRow e sz v n xs :: L) :=
  h.add hb (A := aRow e sz v n xs) (own := fun x => w.heap.size ≤ x) ⟨row_base hr (Nat.zero_le _), fun g hg => row_ge hr hg⟩ (fun x e => e)
end
theorem St.rowBs {W w : World} {X : List Asn} {v : Value} {x : List UInt8} {n : Nat} (h : St W w (aRow 5 1 v n (cellsB x) :: X)) (hn : n = x.length) (hl : x.length ≤ big) : Bs w v x := by
  subst hn
  obtain ⟨own, hr, _⟩ := h.get
  exact Bs.of_own hr.1 hl
def aBy (v : Value) (bs : List UInt8) : Asn := aRow 5 1 v bs.length (cellsB bs)
theorem aBy.nil {W w : World} {L : List Asn} (h : St W w L) : St W w (aBy (.slice none 0 0) [] :: L) :=
  h.add (Below.refl _ _) (A := aBy (.slice none 0 0) []) (own := fun _ => False) ⟨ownNil _ _ _ _, fun g hg => by simp [Value.ownBlock] at hg⟩ (fun x e => e.elim)
section
variable {W w : World} {L : List Asn} {v : Value} {bs : List UInt8}
theorem St.fresh {P : Program} {f : FuncId} {args : Array Value} (h : St W w L) (hc : Calls P f args w (Fresh w bs)) : Calls P f args w fun e w' => ∃ v, e = .returned v ∧ St W w' (aBy v bs :: L) :=
  hc.mono fun e w' ⟨v, he, hr, hb⟩ => ⟨v, he, h.addRow hb hr⟩
end
section
variable {W w : World} {L : List Asn} {v : Value} {bs : List UInt8}
theorem St.byBs (h : St W w (aBy v bs :: L)) (hl : bs.length ≤ big) : Bs w v bs := h.rowBs rfl hl
end
section
variable {W w : World} {L : List Asn} {v : Value} {bs : List UInt8}
end
section
variable {W w : World} {L : List Asn} {v : Value} {bs : List UInt8}
end
section
variable {W w : World} {L : List Asn}
end
section
variable {W w : World} {L : List Asn}
end
section
variable {P : Program} {W w : World} {ops : Array Oper} {rest : List Oper} {o : Oper} {a : Act} {K : Act → World → Prop} {Q : Exit → Act → World → Prop} {E : Prop} {L : List Asn}
theorem step_append_St (hgd : o.guard = none) (s x : Operand) (t : TypeId) (ho : o.op = .call { callee := .builtin .append, args := #[s, x], argTypes := #[t, t] })
    {e : TypeId} {z : Value} {sz bytes : Nat} (ht : P.underlying t = some (.slice e)) (hie : (P.info? e).map (fun i => (i.zero, i.size, i.bytes)) = some (some z, sz, bytes)) (hz : z.cells.size = sz) (hsz : 0 < sz)
    {n m : Nat} {v u : Value} {xs news : List Value} (hs : a.eval s = v) (hx : a.eval x = u) (hown : St W w (aRow e sz v n xs :: L)) (hu : Rd w u m sz news) (h1 : ∀ x ∈ news, x.oneCell' = true) (h63 : n + m ≤ maxLen) (hroom : (n + m) * bytes ≤ 140737488355328)
    (h : ∀ A c w', St W w' (aRow e sz (.slice A (n + m) c) (n + m) (xs ++ news) :: L) → K (a.put o.dst (.slice A (n + m) c)) w') :
    if Region.wanted o (yielded ops a.tmps) = true then Oper.wp P o a w K Q else E := by
  obtain ⟨own, hr, ho', hback⟩ := hown.focus
  refine step_append_Rd hgd s x t ho ht hie hz hsz hs hx hr.1 hu h1 h63 hroom (Nat.zero_le _) fun A c w' r1 x1 y1 => ?_
  refine h A c w' (hback w' (aRow e sz (.slice A (n + m) c) (n + m) (xs ++ news)) ((Ext.refl own w).grown x1 (fun g e' _ => hr.2 g e')) ⟨r1, fun g hg => ?_⟩)
  rcases y1 with e' | e'
  · exact .inl (hr.2 g (by rw [← e', hg]))
  · right; rw [e'] at hg; injection hg with hg; omega
end
theorem addr_at (g o j : Nat) : (⟨g, o, none⟩ : Addr).add j = ⟨g, o + j, none⟩ := by unfold Addr.add; split <;> simp_all
end Go.Proofs.YtafomdobfmmleaaGreatDoor

/- Arguments opened, where their bulk is bounded: []byte. -/
namespace Go.Proofs.YtafomdobfmmleaaGreatDoor
open Go.ChangeShapes Go.WideShapes Go.ChangeAt Go.RowKit Go.Deep
set_option linter.unusedVariables false

theorem list_choose {α : Type} {P : Nat → α → Prop} (n : Nat) (h : ∀ i, i < n → ∃ x, P i x) : ∃ L : List α, L.length = n ∧ ∀ i x, L[i]? = some x → P i x := by
  induction n with
  | zero => exact ⟨[], rfl, fun i x hx => by simp at hx⟩
  | succ n ih =>
    obtain ⟨L, hl, hL⟩ := ih (fun i hi => h i (by omega))
    obtain ⟨x, hx⟩ := h n (by omega)
    refine ⟨L ++ [x], by simp [hl], fun i y hy => ?_⟩
    by_cases hi : i < L.length
    · rw [List.getElem?_append_left hi] at hy; exact hL i y hy
    · rw [List.getElem?_append_right (by omega)] at hy
      have : i - L.length = 0 := by
        rcases Nat.eq_zero_or_pos (i - L.length) with e | e
        · exact e
        · rw [List.getElem?_eq_none (by simp; omega)] at hy; cases hy
      rw [this] at hy
      simp at hy
      subst hy
      have : i = n := by omega
      rw [this]; exact hx

theorem addr_add (b off k : Nat) : (⟨b, off, none⟩ : Addr).add k = ⟨b, off + k, none⟩ := by unfold Addr.add; split <;> simp_all
theorem cell_spot {w : World} {a : Addr} {v : Value} (h : w.cell? a = some v) : a = ⟨a.block, a.off, none⟩ := by
  unfold World.cell? at h
  split at h
  · split at h
    · cases h
    · rename_i hs
      cases a with
      | mk b o s => cases s with
        | none => rfl
        | some x => simp at hs
  · cases h

theorem bulk_one {H : Type} (d : DataW H) : 1 ≤ Rows.uptoBulk d := by
  cases d with
  | lit l => cases l <;> simp [Rows.uptoBulk]
  | nil => simp [Rows.uptoBulk]
  | ptr d => simp [Rows.uptoBulk]
  | slice elems spare => simp [Rows.uptoBulk]
  | agg parts => simp [Rows.uptoBulk]
  | iface t d => simp [Rows.uptoBulk]
  | map entries => simp [Rows.uptoBulk]
  | held h => simp [Rows.uptoBulk]
theorem bulk_len {H : Type} (l : List (DataW H)) : l.length ≤ Rows.uptoBulkAll l := by
  induction l with
  | nil => simp [Rows.uptoBulkAll]
  | cons x r ih => have := bulk_one x; simp only [Rows.uptoBulkAll, List.length_cons]; omega
section
variable {H : Type} {enc : TypeId × Value → H} {P : Program} {w : World} {base : Nat} {held : Bool} {spare : Nat → Bool}
theorem bs_of_trod {fuel : Nat} {t e : TypeId} {c : Value} {x : DataW H × List MemPlace} (ht : P.underlying t = some (.slice e)) (he : P.underlying e = some (.int .u8)) (hC : P.cellsOf e = 1)
    (h : DataW.trod enc P w base spare held fuel t [c] = some x) (hbig : ∀ len cap a, c = .slice a len cap → len ≤ big) : ∃ bs, Bs w c bs := by
  rcases open_slice ht h with ⟨h2, h3⟩ | ⟨a, len, cap, m, n, D, Pl, hcs, hb, hl, hm, hmm, hx, hi⟩
  · simp at h2
    subst h2
    exact ⟨[], Bs.nil w⟩
  · simp at hcs
    subst hcs
    have hlm : len ≤ m := by rw [hmm]; split <;> omega
    obtain ⟨bs, hbl, hbs⟩ := list_choose (P := fun i (b : UInt8) => w.cell? (a.add i) = some (.int .u8 (b.toNat : Int))) len (fun i hil => by
      obtain ⟨cs', hc, htr⟩ := hi i (by omega)
      rw [hC] at hc
      obtain ⟨_, hcl, hcat⟩ := World.cells?_some hc
      obtain ⟨k, rfl, _, hw⟩ := DataW.trod_int he htr
      have hk : 0 ≤ k ∧ k ≤ 255 := by simpa [Lit.wf, IntKind.min, IntKind.max, IntKind.signed, IntKind.bits] using hw
      refine ⟨UInt8.ofNat k.toNat, ?_⟩
      have := hcat 0 (by omega)
      have e1 : ((UInt8.ofNat k.toNat).toNat : Int) = k := by
        rw [UInt8.toNat_ofNat']; omega
      rw [e1]
      simpa [Addr.add] using this)
    refine ⟨bs, ⟨⟨some a, cap, by rw [hbl], fun e => (by cases e), by omega, hm, fun ad had => ?_⟩, by rw [hbl]; exact hbig len cap (some a) rfl⟩⟩
    cases had
    have hget : ∀ j u, (cellsB bs)[j]? = some u → w.cell? (a.add j) = some u := fun j u hu => by
      have hj : j < bs.length := by
        rcases Nat.lt_or_ge j bs.length with h | h
        · exact h
        · rw [List.getElem?_eq_none (by rw [cellsB_len]; exact h)] at hu; cases hu
      rw [cellsB_get bs j hj] at hu
      rw [← hu]
      exact hbs j _ (List.getElem?_eq_getElem hj)
    refine ⟨fun hne => ?_, hget⟩
    have h0 : 0 < bs.length := List.length_pos_iff.2 hne
    have := World.block_lt_of_cell? w _ (hget 0 _ (cellsB_get bs 0 h0))
    rwa [block_of_add] at this
theorem bs_upto {fuel : Nat} {t e : TypeId} {c : Value} {x : DataW H × List MemPlace} (ht : P.underlying t = some (.slice e)) (he : P.underlying e = some (.int .u8)) (hC : P.cellsOf e = 1)
    (h : DataW.trod enc P w base spare held fuel t [c] = some x) (hB : Rows.uptoBulk x.1 ≤ 1048576) : ∃ bs, Bs w c bs ∧ bs.length + 1 ≤ Rows.uptoBulk x.1 := by
  have hlen : ∀ len cap a, c = .slice a len cap → len + 1 ≤ Rows.uptoBulk x.1 := by
    intro len cap a hc
    subst hc
    rcases open_slice ht h with ⟨h2, h3⟩ | ⟨a, len, cap, m, n, D, Pl, hcs, hb, hl, hm, hmm, rfl, hi⟩
    · simp at h2; have := bulk_one x.1; omega
    · simp at hcs
      obtain ⟨_, rfl, _⟩ := hcs
      have h1 := bulk_len ((List.range len).map D)
      rw [List.length_map, List.length_range] at h1
      simp only [Rows.uptoBulk]
      omega
  obtain ⟨bs, hb⟩ := bs_of_trod ht he hC h (fun len cap a hc => by have := hlen len cap a hc; unfold big; omega)
  obtain ⟨⟨A, cap0, hv, _⟩, _⟩ := id hb
  exact ⟨bs, hb, hlen _ _ _ hv⟩
theorem uptoBound {l : List (DataW H)} (hk : Rows.uptoSmall H l = true) : Rows.uptoBulkAll l ≤ 1048576 := of_decide_eq_true hk
end
end Go.Proofs.YtafomdobfmmleaaGreatDoor

/- How the values of a type read: 'Ty', a reading of cells as a datum; structs, strings, byte strings, lists of them. No program here. -/
namespace Go.Proofs.YtafomdobfmmleaaGreatDoor
open Go.ChangeShapes Go.WideShapes Go.ChangeAt Go.RowKit Go.Deep
set_option linter.unusedVariables false

/-- a reading of cells: how many cells, what they read as; all that is read lies in blocks of 'inn'; how much a datum holds -/
structure Ty (α : Type) where
  n : Nat
  rd : (Nat → Prop) → World → List Value → α → Prop
  sz : α → Nat
  len : ∀ {inn : Nat → Prop} {w : World} {cs : List Value} {a : α}, rd inn w cs a → cs.length = n
  ext : ∀ {inn own : Nat → Prop} {w w' : World} {cs : List Value} {a : α}, rd inn w cs a → Ext own w w' → (∀ g, inn g → ¬ own g) → rd inn w' cs a
  mono : ∀ {inn inn' : Nat → Prop} {w : World} {cs : List Value} {a : α}, rd inn w cs a → (∀ g, inn g → inn' g) → rd inn' w cs a
  bound : ∀ {inn : Nat → Prop} {w : World} {cs : List Value} {a : α}, rd inn w cs a → rd (fun g => inn g ∧ g < w.heap.size) w cs a
/-- what was there reads as it did -/
theorem Ty.later {α : Type} (T : Ty α) {inn : Nat → Prop} {w w' : World} {cs : List Value} {a : α} (h : T.rd inn w cs a) (hb : B w w') : T.rd inn w' cs a :=
  T.ext h (Ext.of_B (own := fun _ => False) hb) (fun _ _ => id)
def tI : Ty Int where
  n := 1
  rd _ _ cs a := cs = [.int .i64 a] ∧ -9223372036854775808 ≤ a ∧ a ≤ 9223372036854775807
  sz _ := 1
  len h := by rw [h.1]; rfl
  ext h _ _ := h
  mono h _ := h
  bound h := h
def tW : Ty Int where
  n := 1
  rd _ _ cs a := cs = [.int .u16 a] ∧ 0 ≤ a ∧ a ≤ 65535
  sz _ := 1
  len h := by rw [h.1]; rfl
  ext h _ _ := h
  mono h _ := h
  bound h := h
def tB : Ty Bool where
  n := 1
  rd _ _ cs a := cs = [.bool a]
  sz _ := 1
  len h := by rw [h]; rfl
  ext h _ _ := h
  mono h _ := h
  bound h := h
def tS : Ty (List UInt8) where
  n := 1
  rd _ _ cs a := cs = [.string (bstr a)] ∧ a.length ≤ 4194304
  sz a := a.length + 1
  len h := by rw [h.1]; rfl
  ext h _ _ := h
  mono h _ := h
  bound h := h
def tY : Ty (List UInt8) where
  n := 1
  rd inn w cs a := ∃ v, cs = [v] ∧ Bs w v a ∧ (∀ g, v.ownBlock = some g → a ≠ [] → inn g) ∧ a.length ≤ 4194304
  sz a := a.length + 1
  len h := by obtain ⟨v, rfl, _⟩ := h; rfl
  ext h hx hd := by obtain ⟨v, rfl, h1, h2, h3⟩ := h; exact ⟨v, rfl, h1.ext hx (fun g hg hne => hd g (h2 g hg hne)), h2, h3⟩
  mono h hs := by obtain ⟨v, rfl, h1, h2, h3⟩ := h; exact ⟨v, rfl, h1, fun g hg hne => hs g (h2 g hg hne), h3⟩
  bound h := by obtain ⟨v, rfl, h1, h2, h3⟩ := h; exact ⟨v, rfl, h1, fun g hg hne => ⟨h2 g hg hne, h1.lt hne hg⟩, h3⟩
/-- a pair, one behind the other -/
def tP {α β : Type} (T : Ty α) (U : Ty β) : Ty (α × β) where
  n := T.n + U.n
  rd inn w cs p := ∃ c d, cs = c ++ d ∧ T.rd inn w c p.1 ∧ U.rd inn w d p.2
  sz p := T.sz p.1 + U.sz p.2
  len h := by obtain ⟨c, d, rfl, h1, h2⟩ := h; rw [List.length_append, T.len h1, U.len h2]
  ext h hx hd := by obtain ⟨c, d, rfl, h1, h2⟩ := h; exact ⟨c, d, rfl, T.ext h1 hx hd, U.ext h2 hx hd⟩
  mono h hs := by obtain ⟨c, d, rfl, h1, h2⟩ := h; exact ⟨c, d, rfl, T.mono h1 hs, U.mono h2 hs⟩
  bound h := by obtain ⟨c, d, rfl, h1, h2⟩ := h; exact ⟨c, d, rfl, T.bound h1, U.bound h2⟩
/-- the same cells, another datum; a struct counts one more -/
def tM {α β : Type} (T : Ty α) (f : β → α) : Ty β where
  n := T.n
  rd inn w cs b := T.rd inn w cs (f b)
  sz b := T.sz (f b) + 1
  len h := T.len h
  ext h hx hd := T.ext h hx hd
  mono h hs := T.mono h hs
  bound h := T.bound h
/-- what a list's block says: each element by its cells -/
def Els2 {α : Type} (T : Ty α) (inn : Nat → Prop) (w : World) (b off : Nat) (xs : List α) : Prop :=
  ∀ i x, xs[i]? = some x → ∃ cs, T.rd inn w cs x ∧ ∀ j v, cs[j]? = some v → w.cell? ⟨b, off + i * T.n + j, none⟩ = some v
def tL {α : Type} (T : Ty α) : Ty (List α) where
  n := 1
  rd inn w cs xs := ∃ A cap, cs = [.slice A xs.length cap] ∧ xs.length ≤ cap ∧ cap ≤ maxLen ∧ (A = none → xs.length = 0 ∧ cap = 0) ∧ xs.length ≤ 4194304 ∧
    (0 < xs.length → ∃ b off, A = some ⟨b, off, none⟩ ∧ b < w.heap.size ∧ inn b ∧ Els2 T inn w b off xs)
  sz xs := (xs.map T.sz).sum + 1
  len h := by obtain ⟨A, cap, rfl, _⟩ := h; rfl
  ext h hx hd := by
    obtain ⟨A, cap, rfl, h1, h2, h3, h4, h5⟩ := h
    refine ⟨A, cap, rfl, h1, h2, h3, h4, fun h0 => ?_⟩
    obtain ⟨b, off, rfl, hb, hi, hel⟩ := h5 h0
    refine ⟨b, off, rfl, Nat.lt_of_lt_of_le hb hx.size, hi, fun i x hix => ?_⟩
    obtain ⟨cs, k1, k2⟩ := hel i x hix
    exact ⟨cs, T.ext k1 hx hd, fun j v hj => hx.cell (hd b hi) (k2 j v hj)⟩
  mono h hs := by
    obtain ⟨A, cap, rfl, h1, h2, h3, h4, h5⟩ := h
    refine ⟨A, cap, rfl, h1, h2, h3, h4, fun h0 => ?_⟩
    obtain ⟨b, off, rfl, hb, hi, hel⟩ := h5 h0
    refine ⟨b, off, rfl, hb, hs b hi, fun i x hix => ?_⟩
    obtain ⟨cs, k1, k2⟩ := hel i x hix
    exact ⟨cs, T.mono k1 hs, k2⟩
  bound h := by
    obtain ⟨A, cap, rfl, h1, h2, h3, h4, h5⟩ := h
    refine ⟨A, cap, rfl, h1, h2, h3, h4, fun h0 => ?_⟩
    obtain ⟨b, off, rfl, hb, hi, hel⟩ := h5 h0
    refine ⟨b, off, rfl, hb, ⟨hi, hb⟩, fun i x hix => ?_⟩
    obtain ⟨cs, k1, k2⟩ := hel i x hix
    exact ⟨cs, T.bound k1, k2⟩
/-- an element of a list -/
theorem tL.at {α : Type} {T : Ty α} {inn : Nat → Prop} {w : World} {A : Option Addr} {l cap : Nat} {xs : List α} (h : (tL T).rd inn w [.slice A l cap] xs) {i : Nat} {x : α} (hi : xs[i]? = some x) :
    l = xs.length ∧ ∃ b off cs, A = some ⟨b, off, none⟩ ∧ T.rd inn w cs x ∧ ∀ j v, cs[j]? = some v → w.cell? ⟨b, off + i * T.n + j, none⟩ = some v := by
  obtain ⟨A', cap', he, h1, h2, h3, h4, h5⟩ := h
  injection he with he _
  injection he with e1 e2 e3
  subst e1 e2 e3
  have hl : i < xs.length := by
    rcases Nat.lt_or_ge i xs.length with h' | h'
    · exact h'
    · rw [List.getElem?_eq_none h'] at hi; cases hi
  obtain ⟨b, off, rfl, hb, hin, hel⟩ := h5 (by omega)
  obtain ⟨cs, k1, k2⟩ := hel i x hi
  exact ⟨rfl, b, off, cs, rfl, k1, k2⟩
theorem tL.slice {α : Type} {T : Ty α} {inn : Nat → Prop} {w : World} {cs : List Value} {xs : List α} (h : (tL T).rd inn w cs xs) : ∃ A cap, cs = [.slice A xs.length cap] ∧ xs.length ≤ 4194304 := by
  obtain ⟨A, cap, rfl, _, _, _, h4, _⟩ := h
  exact ⟨A, cap, rfl, h4⟩
/-! opening what came in -/
/-- a type's readings, of bulk at most 1048576, are data of 'T' -/
def Opens {α : Type} (P : Program) (t : TypeId) (T : Ty α) : Prop :=
  P.cellsOf t = T.n ∧ ∀ {H : Type} {enc : TypeId × Value → H} {w : World} {base : Nat} {held : Bool} {spare : Nat → Bool} {fuel : Nat} {cs : List Value} {x : DataW H × List MemPlace},
    DataW.trod enc P w base spare held fuel t cs = some x → Rows.uptoBulk x.1 ≤ 1048576 → ∃ a, T.rd (fun g => g < w.heap.size) w cs a ∧ T.sz a ≤ Rows.uptoBulk x.1
section
variable {P : Program} {t e : TypeId}
theorem opensI (ht : P.underlying t = some (.int .i64)) (hc : P.cellsOf t = 1) : Opens P t tI := by
  refine ⟨hc, fun h hB => ?_⟩
  obtain ⟨n, rfl, hx, hw⟩ := DataW.trod_int ht h
  rw [hx]
  exact ⟨n, ⟨rfl, by simpa [Lit.wf, IntKind.min, IntKind.max, IntKind.signed, IntKind.bits] using hw⟩, by simp [tI, Rows.uptoBulk]⟩
theorem opensW (ht : P.underlying t = some (.int .u16)) (hc : P.cellsOf t = 1) : Opens P t tW := by
  refine ⟨hc, fun h hB => ?_⟩
  obtain ⟨n, rfl, hx, hw⟩ := DataW.trod_int ht h
  rw [hx]
  exact ⟨n, ⟨rfl, by simpa [Lit.wf, IntKind.min, IntKind.max, IntKind.signed, IntKind.bits] using hw⟩, by simp [tW, Rows.uptoBulk]⟩
theorem opensS (ht : P.underlying t = some .string) (hc : P.cellsOf t = 1) : Opens P t tS := by
  refine ⟨hc, fun h hB => ?_⟩
  obtain ⟨s, rfl, hx, _⟩ := DataW.trod_string ht h
  rw [hx] at hB ⊢
  simp only [Rows.uptoBulk] at hB ⊢
  refine ⟨s.data.toList, ⟨by cases s; rfl, by omega⟩, by simp [tS]⟩
theorem opensY (ht : P.underlying t = some (.slice e)) (he : P.underlying e = some (.int .u8)) (hC : P.cellsOf e = 1) (hc : P.cellsOf t = 1) : Opens P t tY := by
  refine ⟨hc, fun {H enc w base held spare fuel cs x} h hB => ?_⟩
  have hcs : ∃ c, cs = [c] := by
    rcases open_slice ht h with ⟨rfl, _⟩ | ⟨a, len, cap, m, n, D, Pl, rfl, _⟩
    · exact ⟨_, rfl⟩
    · exact ⟨_, rfl⟩
  obtain ⟨c, rfl⟩ := hcs
  obtain ⟨bs, hb, hl⟩ := bs_upto ht he hC h hB
  exact ⟨bs, ⟨c, rfl, hb, fun g hg hne => hb.lt hne hg, by omega⟩, by simp only [tY]; omega⟩
/-- fields that lie one behind the other from a cell on -/
def OpensF {α : Type} (P : Program) (fs : List Field) (o : Nat) (T : Ty α) : Prop :=
  ∀ {H : Type} {enc : TypeId × Value → H} {w : World} {base : Nat} {held : Bool} {spare : Nat → Bool} {fuel : Nat} {cs : List Value} {xs : List (DataW H × List MemPlace)},
    xs.length = fs.length → (∀ (i : Nat) (f : Field), fs[i]? = some f → DataW.trod enc P w base spare held fuel f.type ((cs.drop f.offset).take (P.cellsOf f.type)) = xs[i]?) → Rows.uptoBulkAll (xs.map (·.1)) ≤ 1048576 →
    ∃ a, T.rd (fun g => g < w.heap.size) w ((cs.drop o).take T.n) a ∧ T.sz a ≤ Rows.uptoBulkAll (xs.map (·.1))
theorem opensF1 {α : Type} {f : Field} {T : Ty α} {o : Nat} (ho : f.offset = o) (hT : Opens P f.type T) : OpensF P [f] o T := by
  intro H enc w base held spare fuel cs xs hl hx hB
  obtain ⟨y, rfl⟩ : ∃ y, xs = [y] := by
    cases xs with
    | nil => simp at hl
    | cons y r => cases r with
      | nil => exact ⟨y, rfl⟩
      | cons _ _ => simp at hl
  have h0 := hx 0 f rfl
  simp only [List.map_cons, List.map_nil, Rows.uptoBulkAll, Nat.add_zero] at hB ⊢
  rw [hT.1, ho] at h0
  exact hT.2 h0 hB
theorem opensFc {α β : Type} {f : Field} {fs : List Field} {T : Ty α} {U : Ty β} {o o' : Nat} (ho : f.offset = o) (ho' : o + T.n = o') (hT : Opens P f.type T) (hU : OpensF P fs o' U) : OpensF P (f :: fs) o (tP T U) := by
  intro H enc w base held spare fuel cs xs hl hx hB
  cases xs with
  | nil => simp at hl
  | cons y r =>
    simp only [List.map_cons, Rows.uptoBulkAll] at hB ⊢
    have h0 := hx 0 f rfl
    rw [hT.1, ho] at h0
    obtain ⟨a, ha, hsa⟩ := hT.2 h0 (by show Rows.uptoBulk y.1 ≤ _; omega)
    obtain ⟨b, hb, hsb⟩ := hU (xs := r) (by simpa using hl) (fun i g hg => by have := hx (i + 1) g (by simpa using hg); simpa using this) (by omega)
    refine ⟨(a, b), ⟨_, _, ?_, ha, hb⟩, by simp only [tP]; omega⟩
    simp only [tP]
    rw [← ho', ← List.drop_drop, ← List.take_add]
theorem opensT {α β : Type} {fs : Array Field} {T : Ty α} {f : β → α} (g : α → β) (hfg : ∀ a, f (g a) = a) (ht : P.underlying t = some (.struct fs)) (hT : OpensF P fs.toList 0 T) (hc : P.cellsOf t = T.n) : Opens P t (tM T f) := by
  refine ⟨hc, fun {H enc w base held spare fuel cs x} h hB => ?_⟩
  obtain ⟨xs, n, _, hx, hcl, hxl, hf⟩ := DataW.trod_struct ht h
  rw [hx] at hB ⊢
  simp only [Rows.uptoBulk] at hB ⊢
  obtain ⟨a, ha, hs⟩ := hT (xs := xs) (by simpa using hxl) (fun i fl hfl => hf i fl (by simpa using hfl)) (by omega)
  refine ⟨g a, ?_, by simp only [tM]; rw [hfg]; omega⟩
  show T.rd _ w cs (f (g a))
  rw [hfg]
  rw [List.drop_zero, List.take_of_length_le (by omega)] at ha
  exact ha
/-- an argument of such a type -/
theorem Opens.arg {α : Type} {T : Ty α} (hT : Opens P t T) {H : Type} {enc : TypeId × Value → H} {w : World} {base : Nat} {held : Bool} {spare : Nat → Bool} {v : Value} {d : DataW H} {p : List MemPlace}
    (h : DataW.Trod enc P w base spare held t v d p) (hB : Rows.uptoBulk d ≤ 1048576) : ∃ a, T.rd (fun g => g < w.heap.size) w v.cells.toList a ∧ T.sz a ≤ Rows.uptoBulk d := by
  obtain ⟨fuel, hf⟩ := h
  exact hT.2 hf hB
end
end Go.Proofs.YtafomdobfmmleaaGreatDoor

/- Typed readings (Ty) as data (D): 'Dt', and that both say the same (Lk). No program here. -/
namespace Go.Proofs.YtafomdobfmmleaaGreatDoor
open Go.RowKit
set_option linter.unusedSectionVars false
variable [Old]
set_option linter.unusedVariables false

/-- a type's data: its cells; what may be -/
structure Dt (α : Type) where
  c : α → List D
  n : Nat
  ok : α → Prop
  len : ∀ a, (c a).length = n
def dI : Dt Int := ⟨fun a => [.int .i64 a], 1, fun a => -9223372036854775808 ≤ a ∧ a ≤ 9223372036854775807, fun _ => rfl⟩
def dW : Dt Int := ⟨fun a => [.int .u16 a], 1, fun a => 0 ≤ a ∧ a ≤ 65535, fun _ => rfl⟩
def dB : Dt Bool := ⟨fun a => [.bool a], 1, fun _ => True, fun _ => rfl⟩
def dS : Dt (List UInt8) := ⟨fun a => [.str a], 1, fun a => a.length ≤ 4194304, fun _ => rfl⟩
def dY : Dt (List UInt8) := ⟨fun a => [.list 1 (a.map cByte)], 1, fun a => a.length ≤ 4194304, fun _ => rfl⟩
def dP {α β : Type} (A : Dt α) (B : Dt β) : Dt (α × β) := ⟨fun p => A.c p.1 ++ B.c p.2, A.n + B.n, fun p => A.ok p.1 ∧ B.ok p.2, fun p => by rw [List.length_append, A.len, B.len]⟩
def dM {α β : Type} (A : Dt α) (f : β → α) : Dt β := ⟨fun b => A.c (f b), A.n, fun b => A.ok (f b), fun b => A.len _⟩
def dL {α : Type} (A : Dt α) : Dt (List α) := ⟨fun xs => [.list A.n (xs.map A.c)], 1, fun xs => xs.length ≤ 4194304 ∧ ∀ x ∈ xs, A.ok x, fun _ => rfl⟩
/-- a reading and its data say the same -/
structure Lk {α : Type} (T : Ty α) (A : Dt α) : Prop where
  n : T.n = A.n
  to : ∀ {inn : Nat → Prop} {w : World} {cs : List Value} {a : α}, T.rd inn w cs a → Drs inn w cs (A.c a) ∧ A.ok a ∧ ∀ v ∈ cs, v.oneCell' = true
  of : ∀ {I : Nat → Prop} {w : World} {cs : List Value} {a : α}, Drs I w cs (A.c a) → A.ok a → T.rd I w cs a
theorem Drs.one {I : Nat → Prop} {w : World} {v : Value} {d : D} (h : Dr I w v d) : Drs I w [v] [d] := ⟨rfl, fun i a b h1 h2 => by
  cases i with
  | zero => simp at h1 h2; subst h1 h2; exact h
  | succ i => simp at h1⟩
theorem Drs.one_inv {I : Nat → Prop} {w : World} {cs : List Value} {d : D} (h : Drs I w cs [d]) : ∃ v, cs = [v] ∧ Dr I w v d := by
  obtain ⟨hl, h⟩ := h
  match cs, hl with
  | [v], _ => exact ⟨v, rfl, h 0 v d rfl rfl⟩
theorem LkI : Lk tI dI where
  n := rfl
  to h := by
    obtain ⟨rfl, h1⟩ := h
    exact ⟨.one (.int _ _), h1, by simp [Value.oneCell']⟩
  of h k := by
    obtain ⟨v, rfl, hv⟩ := h.one_inv
    cases hv
    exact ⟨rfl, k⟩
theorem LkW : Lk tW dW where
  n := rfl
  to h := by
    obtain ⟨rfl, h1⟩ := h
    exact ⟨.one (.int _ _), h1, by simp [Value.oneCell']⟩
  of h k := by
    obtain ⟨v, rfl, hv⟩ := h.one_inv
    cases hv
    exact ⟨rfl, k⟩
theorem LkB : Lk tB dB where
  n := rfl
  to {_ _ cs a} h := by
    have h : cs = [.bool a] := h
    subst h
    exact ⟨.one (.bool _), trivial, by simp [Value.oneCell']⟩
  of h k := by
    obtain ⟨v, rfl, hv⟩ := h.one_inv
    cases hv
    rfl
theorem LkS : Lk tS dS where
  n := rfl
  to h := by
    obtain ⟨rfl, h1⟩ := h
    exact ⟨.one (.str _), h1, by simp [Value.oneCell']⟩
  of h k := by
    obtain ⟨v, rfl, hv⟩ := h.one_inv
    cases hv
    exact ⟨rfl, k⟩
theorem LkY : Lk tY dY where
  n := rfl
  to h := by
    obtain ⟨v, rfl, hb, hi, hl⟩ := h
    refine ⟨.one (hb.dr hi), hl, ?_⟩
    obtain ⟨A, c, rfl⟩ := hb.rd.slice
    simp [Value.oneCell']
  of {I _ _ _} h k := by
    obtain ⟨v, rfl, hv⟩ := h.one_inv
    clear h
    have h := hv
    clear hv
    have k' : _ ≤ 4194304 := k
    refine ⟨v, rfl, h.bs (by unfold big; omega), fun g hg hne => ?_, k⟩
    generalize hq : (D.list 1 _) = q at h
    cases h <;> try (cases hq; done)
    rename_i A cap n l xs U hl0 hl hm hnone hlen hA g1 hU
    injection hq with h1 h2
    subst h1 h2
    obtain ⟨b, off, rfl, _, hI, _⟩ := hA (by rw [hl0]; simpa using List.length_pos_iff.2 hne)
    have : b = g := by simpa [Value.ownBlock] using hg
    subst this
    exact hI
theorem Drs.split {I : Nat → Prop} {w : World} {cs : List Value} {xs ys : List D} (h : Drs I w cs (xs ++ ys)) : ∃ c d, cs = c ++ d ∧ Drs I w c xs ∧ Drs I w d ys := by
  have hl := h.1
  rw [List.length_append] at hl
  refine ⟨cs.take xs.length, cs.drop xs.length, (List.take_append_drop _ _).symm, ⟨by rw [List.length_take]; omega, fun i v d h1 h2 => ?_⟩, ⟨by rw [List.length_drop]; omega, fun i v d h1 h2 => ?_⟩⟩
  · rw [List.getElem?_take] at h1
    split at h1
    · exact h.2 i v d h1 (by rw [List.getElem?_append_left (by assumption)]; exact h2)
    · cases h1
  · rw [List.getElem?_drop] at h1
    exact h.2 _ v d h1 (by rw [List.getElem?_append_right (by omega)]; simpa using h2)
theorem LkP {α β : Type} {T : Ty α} {U : Ty β} {A : Dt α} {B : Dt β} (h : Lk T A) (k : Lk U B) : Lk (tP T U) (dP A B) where
  n := by show T.n + U.n = A.n + B.n; rw [h.n, k.n]
  to q := by
    obtain ⟨c, d, rfl, q1, q2⟩ := q
    obtain ⟨a1, a2, a3⟩ := h.to q1
    obtain ⟨b1, b2, b3⟩ := k.to q2
    exact ⟨a1.append b1, ⟨a2, b2⟩, fun v hv => by rcases List.mem_append.1 hv with e | e; exact a3 v e; exact b3 v e⟩
  of q ok := by
    obtain ⟨c, d, rfl, q1, q2⟩ := Drs.split q
    exact ⟨c, d, rfl, h.of q1 ok.1, k.of q2 ok.2⟩
theorem LkM {α β : Type} {T : Ty α} {A : Dt α} (f : β → α) (h : Lk T A) : Lk (tM T f) (dM A f) where
  n := h.n
  to q := h.to q
  of q ok := h.of q ok
theorem LkL {α : Type} {T : Ty α} {A : Dt α} (h : Lk T A) : Lk (tL T) (dL A) where
  n := rfl
  to {inn w cs xs} q := by
    obtain ⟨P, cap, rfl, h1, h2, h3, h4, h5⟩ := q
    have key : ∀ i, ∃ ys : List Value, i < xs.length → ∃ x b off, xs[i]? = some x ∧ P = some ⟨b, off, none⟩ ∧ b < w.heap.size ∧ inn b ∧ T.rd inn w ys x ∧ ∀ j v, ys[j]? = some v → w.cell? ⟨b, off + i * T.n + j, none⟩ = some v := by
      intro i
      by_cases hi : i < xs.length
      · obtain ⟨b, off, e, hb, hin, hel⟩ := h5 (by omega)
        obtain ⟨ys, k1, k2⟩ := hel i _ (List.getElem?_eq_getElem hi)
        exact ⟨ys, fun _ => ⟨_, b, off, List.getElem?_eq_getElem hi, e, hb, hin, k1, k2⟩⟩
      · exact ⟨[], fun h => absurd h hi⟩
    let Y : Nat → List Value := fun i => Classical.choose (key i)
    have hY : ∀ i, i < xs.length → ∃ x b off, xs[i]? = some x ∧ P = some ⟨b, off, none⟩ ∧ b < w.heap.size ∧ inn b ∧ T.rd inn w (Y i) x ∧ ∀ j v, (Y i)[j]? = some v → w.cell? ⟨b, off + i * T.n + j, none⟩ = some v := fun i hi => Classical.choose_spec (key i) hi
    have hget : ∀ (i : Nat) x (j : Nat) d, (xs.map A.c)[i]? = some x → x[j]? = some d → ∃ a v, xs[i]? = some a ∧ x = A.c a ∧ i < xs.length ∧ (Y i)[j]? = some v ∧ Dr inn w v d ∧ v.oneCell' = true := by
      intro i x j d hx hj
      rw [List.getElem?_map] at hx
      cases hq : xs[i]? with
      | none => rw [hq] at hx; cases hx
      | some a =>
        rw [hq] at hx
        injection hx with hx
        subst hx
        have hi := (List.getElem?_eq_some_iff.1 hq).1
        obtain ⟨a', b, off, e1, e2, e3, e4, e5, e6⟩ := hY i hi
        rw [hq] at e1
        injection e1 with e1
        subst e1
        obtain ⟨d1, _, d3⟩ := h.to e5
        have hlt : j < (Y i).length := by rw [d1.1]; exact (List.getElem?_eq_some_iff.1 hj).1
        exact ⟨a, _, rfl, rfl, hi, List.getElem?_eq_getElem hlt, d1.2 j _ d (List.getElem?_eq_getElem hlt) hj, d3 _ (List.getElem_mem _)⟩
    refine ⟨.one (.list P cap A.n xs.length (xs.map A.c) (fun i j => (Y i).getD j undef) (by simp) h1 h2 h3 (fun x hx => ?_) (fun h0 => ?_) (fun i x j d hx hj => ?_) (fun i x j d hx hj => ?_)), ⟨h4, fun x hx => ?_⟩, by simp [Value.oneCell']⟩
    · obtain ⟨a, _, rfl⟩ := List.mem_map.1 hx
      exact A.len a
    · obtain ⟨b, off, e, hb, hin, hel⟩ := h5 h0
      refine ⟨b, off, e, hb, hin, fun i x j d hx hj => ?_⟩
      obtain ⟨a, v, q1, q2, hi, q3, _⟩ := hget i x j d hx hj
      obtain ⟨a', b', off', e1, e2, e3, e4, e5, e6⟩ := hY i hi
      rw [e] at e2
      injection e2 with e2
      injection e2 with e2 e2' _
      subst e2 e2'
      rw [← h.n, e6 j v q3]
      simp [List.getD, q3]
    · obtain ⟨a, v, q1, q2, hi, q3, q4, q5⟩ := hget i x j d hx hj
      simp only [List.getD, q3, Option.getD_some]
      exact q5
    · obtain ⟨a, v, q1, q2, hi, q3, q4, q5⟩ := hget i x j d hx hj
      simp only [List.getD, q3, Option.getD_some]
      exact q4
    · obtain ⟨i, hi⟩ := List.getElem?_of_mem hx
      have hlt := (List.getElem?_eq_some_iff.1 hi).1
      obtain ⟨a', b', off', e1, e2, e3, e4, e5, e6⟩ := hY i hlt
      rw [hi] at e1
      injection e1 with e1
      subst e1
      exact (h.to e5).2.1
  of {I w cs xs} q ok := by
    obtain ⟨v, rfl, qv⟩ := q.one_inv
    clear q
    have q := qv
    clear qv
    generalize hq : (D.list A.n (xs.map A.c)) = d at q
    cases q <;> try (cases hq; done)
    rename_i P cap n l ys U hl0 hl hm hnone hlen hA g1 hU
    injection hq with e1 e2
    subst e1 e2
    rw [List.length_map] at hl0
    subst hl0
    refine ⟨P, cap, rfl, hl, hm, hnone, ok.1, fun h0 => ?_⟩
    obtain ⟨b, off, rfl, hb, hI, hc⟩ := hA h0
    refine ⟨b, off, rfl, hb, hI, fun i x hx => ⟨(List.range A.n).map (U i), h.of ⟨by simp [A.len], fun j v d h1 h2 => ?_⟩ (ok.2 x (List.mem_of_getElem? hx)), fun j v hj => ?_⟩⟩
    · have hlt : j < A.n := by have := (List.getElem?_eq_some_iff.1 h1).1; simpa using this
      rw [List.getElem?_map, List.getElem?_range hlt] at h1
      injection h1 with h1
      subst h1
      exact hU i (A.c x) j d (by rw [List.getElem?_map, hx]; rfl) h2
    · have hlt : j < A.n := by have := (List.getElem?_eq_some_iff.1 hj).1; simpa using this
      rw [List.getElem?_map, List.getElem?_range hlt] at hj
      injection hj with hj
      subst hj
      have hlt2 : j < (A.c x).length := by rw [A.len]; exact hlt
      rw [h.n]
      exact hc i (A.c x) j _ (by rw [List.getElem?_map, hx]; rfl) (List.getElem?_eq_getElem hlt2)
end Go.Proofs.YtafomdobfmmleaaGreatDoor

/- The types of package api as data, how they read, and their cells (printed by gen_jb.py). -/
namespace Go.Proofs.YtafomdobfmmleaaGreatDoor
open Go.ChangeShapes Go.WideShapes Go.ChangeAt Go.RowKit Go.Deep
set_option linter.unusedVariables false

theorem len1 {cs : List Value} (h : cs.length = 1) : ∃ v, cs = [v] := by
  cases cs with
  | nil => simp at h
  | cons v r => cases r with
    | nil => exact ⟨v, rfl⟩
    | cons _ _ => simp at h
structure SignD where
  key : Int
  digest : Int
def tSign : Ty SignD := tM (tP tI tI) (fun s : SignD => (s.key, s.digest))
theorem tSign.parts {inn : Nat → Prop} {w : World} {cs : List Value} {s : SignD} (h : tSign.rd inn w cs s) : cs = [.int .i64 s.key, .int .i64 s.digest] ∧ (-9223372036854775808 ≤ s.key ∧ s.key ≤ 9223372036854775807) ∧ (-9223372036854775808 ≤ s.digest ∧ s.digest ≤ 9223372036854775807) := by
  obtain ⟨c0, c1, rfl, h0, h1⟩ := h
  obtain ⟨rfl, b0⟩ := h0
  obtain ⟨rfl, b1⟩ := h1
  exact ⟨rfl, b0, b1⟩
theorem tSign.mk {inn : Nat → Prop} {w : World} {s : SignD} (k0 : (-9223372036854775808 ≤ s.key ∧ s.key ≤ 9223372036854775807)) (k1 : (-9223372036854775808 ≤ s.digest ∧ s.digest ≤ 9223372036854775807)) : tSign.rd inn w [.int .i64 s.key, .int .i64 s.digest] s := by
  exact ⟨[.int .i64 s.key], [.int .i64 s.digest], rfl, ⟨rfl, k0⟩, ⟨rfl, k1⟩⟩
structure OpD where
  kind : Int
  topic : List UInt8
  group : List UInt8
  offset : Int
  records : List (List UInt8)
def tOp : Ty OpD := tM (tP tI (tP tS (tP tS (tP tI (tL tY))))) (fun s : OpD => (s.kind, s.topic, s.group, s.offset, s.records))
theorem tOp.parts {inn : Nat → Prop} {w : World} {cs : List Value} {s : OpD} (h : tOp.rd inn w cs s) : ∃ v1, cs = [.int .i64 s.kind, .string (bstr s.topic), .string (bstr s.group), .int .i64 s.offset, v1] ∧ (-9223372036854775808 ≤ s.kind ∧ s.kind ≤ 9223372036854775807) ∧ s.topic.length ≤ 4194304 ∧ s.group.length ≤ 4194304 ∧ (-9223372036854775808 ≤ s.offset ∧ s.offset ≤ 9223372036854775807) ∧ (tL tY).rd inn w [v1] s.records := by
  obtain ⟨c0, e1, rfl, h0, c1, e2, rfl, h1, c2, e3, rfl, h2, c3, c4, rfl, h3, h4⟩ := h
  obtain ⟨rfl, b0⟩ := h0
  obtain ⟨rfl, b1⟩ := h1
  obtain ⟨rfl, b2⟩ := h2
  obtain ⟨rfl, b3⟩ := h3
  obtain ⟨u4, rfl⟩ := len1 ((tL tY).len h4)
  exact ⟨u4, rfl, b0, b1, b2, b3, h4⟩
theorem tOp.mk {inn : Nat → Prop} {w : World} {s : OpD} {v1 : Value} (k0 : (-9223372036854775808 ≤ s.kind ∧ s.kind ≤ 9223372036854775807)) (k1 : s.topic.length ≤ 4194304) (k2 : s.group.length ≤ 4194304) (k3 : (-9223372036854775808 ≤ s.offset ∧ s.offset ≤ 9223372036854775807)) (k4 : (tL tY).rd inn w [v1] s.records) : tOp.rd inn w [.int .i64 s.kind, .string (bstr s.topic), .string (bstr s.group), .int .i64 s.offset, v1] s := by
  exact ⟨[.int .i64 s.kind], [.string (bstr s.topic), .string (bstr s.group), .int .i64 s.offset, v1], rfl, ⟨rfl, k0⟩, [.string (bstr s.topic)], [.string (bstr s.group), .int .i64 s.offset, v1], rfl, ⟨rfl, k1⟩, [.string (bstr s.group)], [.int .i64 s.offset, v1], rfl, ⟨rfl, k2⟩, [.int .i64 s.offset], [v1], rfl, ⟨rfl, k3⟩, k4⟩
structure ResultD where
  err : Int
  offset : Int
def tResult : Ty ResultD := tM (tP tI tI) (fun s : ResultD => (s.err, s.offset))
theorem tResult.parts {inn : Nat → Prop} {w : World} {cs : List Value} {s : ResultD} (h : tResult.rd inn w cs s) : cs = [.int .i64 s.err, .int .i64 s.offset] ∧ (-9223372036854775808 ≤ s.err ∧ s.err ≤ 9223372036854775807) ∧ (-9223372036854775808 ≤ s.offset ∧ s.offset ≤ 9223372036854775807) := by
  obtain ⟨c0, c1, rfl, h0, h1⟩ := h
  obtain ⟨rfl, b0⟩ := h0
  obtain ⟨rfl, b1⟩ := h1
  exact ⟨rfl, b0, b1⟩
theorem tResult.mk {inn : Nat → Prop} {w : World} {s : ResultD} (k0 : (-9223372036854775808 ≤ s.err ∧ s.err ≤ 9223372036854775807)) (k1 : (-9223372036854775808 ≤ s.offset ∧ s.offset ≤ 9223372036854775807)) : tResult.rd inn w [.int .i64 s.err, .int .i64 s.offset] s := by
  exact ⟨[.int .i64 s.err], [.int .i64 s.offset], rfl, ⟨rfl, k0⟩, ⟨rfl, k1⟩⟩
structure RequestD where
  client : Int
  time : Int
  op : OpD
def tRequest : Ty RequestD := tM (tP tI (tP tI tOp)) (fun s : RequestD => (s.client, s.time, s.op))
theorem tRequest.parts {inn : Nat → Prop} {w : World} {cs : List Value} {s : RequestD} (h : tRequest.rd inn w cs s) : ∃ v1, cs = [.int .i64 s.client, .int .i64 s.time, .int .i64 s.op.kind, .string (bstr s.op.topic), .string (bstr s.op.group), .int .i64 s.op.offset, v1] ∧ (-9223372036854775808 ≤ s.client ∧ s.client ≤ 9223372036854775807) ∧ (-9223372036854775808 ≤ s.time ∧ s.time ≤ 9223372036854775807) ∧ (-9223372036854775808 ≤ s.op.kind ∧ s.op.kind ≤ 9223372036854775807) ∧ s.op.topic.length ≤ 4194304 ∧ s.op.group.length ≤ 4194304 ∧ (-9223372036854775808 ≤ s.op.offset ∧ s.op.offset ≤ 9223372036854775807) ∧ (tL tY).rd inn w [v1] s.op.records := by
  obtain ⟨c0, e1, rfl, h0, c1, c2, rfl, h1, h2⟩ := h
  obtain ⟨rfl, b0⟩ := h0
  obtain ⟨rfl, b1⟩ := h1
  obtain ⟨u2_0, rfl, f2_0, f2_1, f2_2, f2_3, f2_4⟩ := tOp.parts h2
  exact ⟨u2_0, rfl, b0, b1, f2_0, f2_1, f2_2, f2_3, f2_4⟩
theorem tRequest.mk {inn : Nat → Prop} {w : World} {s : RequestD} {v1 : Value} (k0 : (-9223372036854775808 ≤ s.client ∧ s.client ≤ 9223372036854775807)) (k1 : (-9223372036854775808 ≤ s.time ∧ s.time ≤ 9223372036854775807)) (k2 : (-9223372036854775808 ≤ s.op.kind ∧ s.op.kind ≤ 9223372036854775807)) (k3 : s.op.topic.length ≤ 4194304) (k4 : s.op.group.length ≤ 4194304) (k5 : (-9223372036854775808 ≤ s.op.offset ∧ s.op.offset ≤ 9223372036854775807)) (k6 : (tL tY).rd inn w [v1] s.op.records) : tRequest.rd inn w [.int .i64 s.client, .int .i64 s.time, .int .i64 s.op.kind, .string (bstr s.op.topic), .string (bstr s.op.group), .int .i64 s.op.offset, v1] s := by
  exact ⟨[.int .i64 s.client], [.int .i64 s.time, .int .i64 s.op.kind, .string (bstr s.op.topic), .string (bstr s.op.group), .int .i64 s.op.offset, v1], rfl, ⟨rfl, k0⟩, [.int .i64 s.time], [.int .i64 s.op.kind, .string (bstr s.op.topic), .string (bstr s.op.group), .int .i64 s.op.offset, v1], rfl, ⟨rfl, k1⟩, tOp.mk k2 k3 k4 k5 k6⟩
structure SignedD where
  request : RequestD
  sign : SignD
def tSigned : Ty SignedD := tM (tP tRequest tSign) (fun s : SignedD => (s.request, s.sign))
theorem tSigned.parts {inn : Nat → Prop} {w : World} {cs : List Value} {s : SignedD} (h : tSigned.rd inn w cs s) : ∃ v1, cs = [.int .i64 s.request.client, .int .i64 s.request.time, .int .i64 s.request.op.kind, .string (bstr s.request.op.topic), .string (bstr s.request.op.group), .int .i64 s.request.op.offset, v1, .int .i64 s.sign.key, .int .i64 s.sign.digest] ∧ (-9223372036854775808 ≤ s.request.client ∧ s.request.client ≤ 9223372036854775807) ∧ (-9223372036854775808 ≤ s.request.time ∧ s.request.time ≤ 9223372036854775807) ∧ (-9223372036854775808 ≤ s.request.op.kind ∧ s.request.op.kind ≤ 9223372036854775807) ∧ s.request.op.topic.length ≤ 4194304 ∧ s.request.op.group.length ≤ 4194304 ∧ (-9223372036854775808 ≤ s.request.op.offset ∧ s.request.op.offset ≤ 9223372036854775807) ∧ (tL tY).rd inn w [v1] s.request.op.records ∧ (-9223372036854775808 ≤ s.sign.key ∧ s.sign.key ≤ 9223372036854775807) ∧ (-9223372036854775808 ≤ s.sign.digest ∧ s.sign.digest ≤ 9223372036854775807) := by
  obtain ⟨c0, c1, rfl, h0, h1⟩ := h
  obtain ⟨u0_0, rfl, f0_0, f0_1, f0_2, f0_3, f0_4, f0_5, f0_6⟩ := tRequest.parts h0
  obtain ⟨rfl, f1_0, f1_1⟩ := tSign.parts h1
  exact ⟨u0_0, rfl, f0_0, f0_1, f0_2, f0_3, f0_4, f0_5, f0_6, f1_0, f1_1⟩
structure HeaderD where
  seq : Int
  prev : Int
  batch : Int
  root : Int
  state : Int
def tHeader : Ty HeaderD := tM (tP tI (tP tI (tP tI (tP tI tI)))) (fun s : HeaderD => (s.seq, s.prev, s.batch, s.root, s.state))
structure CertD where
  seq : Int
  digest : Int
  signs : List (SignD)
def tCert : Ty CertD := tM (tP tI (tP tI (tL tSign))) (fun s : CertD => (s.seq, s.digest, s.signs))
theorem tCert.parts {inn : Nat → Prop} {w : World} {cs : List Value} {s : CertD} (h : tCert.rd inn w cs s) : ∃ v1, cs = [.int .i64 s.seq, .int .i64 s.digest, v1] ∧ (-9223372036854775808 ≤ s.seq ∧ s.seq ≤ 9223372036854775807) ∧ (-9223372036854775808 ≤ s.digest ∧ s.digest ≤ 9223372036854775807) ∧ (tL tSign).rd inn w [v1] s.signs := by
  obtain ⟨c0, e1, rfl, h0, c1, c2, rfl, h1, h2⟩ := h
  obtain ⟨rfl, b0⟩ := h0
  obtain ⟨rfl, b1⟩ := h1
  obtain ⟨u2, rfl⟩ := len1 ((tL tSign).len h2)
  exact ⟨u2, rfl, b0, b1, h2⟩
theorem tCert.mk {inn : Nat → Prop} {w : World} {s : CertD} {v1 : Value} (k0 : (-9223372036854775808 ≤ s.seq ∧ s.seq ≤ 9223372036854775807)) (k1 : (-9223372036854775808 ≤ s.digest ∧ s.digest ≤ 9223372036854775807)) (k2 : (tL tSign).rd inn w [v1] s.signs) : tCert.rd inn w [.int .i64 s.seq, .int .i64 s.digest, v1] s := by
  exact ⟨[.int .i64 s.seq], [.int .i64 s.digest, v1], rfl, ⟨rfl, k0⟩, [.int .i64 s.digest], [v1], rfl, ⟨rfl, k1⟩, k2⟩
structure PreparedD where
  view : Int
  seq : Int
  digest : Int
  firstS : SignD
  signs : List (SignD)
  batch : List (SignedD)
def tPrepared : Ty PreparedD := tM (tP tI (tP tI (tP tI (tP tSign (tP (tL tSign) (tL tSigned)))))) (fun s : PreparedD => (s.view, s.seq, s.digest, s.firstS, s.signs, s.batch))
structure ChangeD where
  view : Int
  src : Int
  cert : CertD
  above : List (PreparedD)
  sign : SignD
def tChange : Ty ChangeD := tM (tP tI (tP tI (tP tCert (tP (tL tPrepared) tSign)))) (fun s : ChangeD => (s.view, s.src, s.cert, s.above, s.sign))
theorem tChange.parts {inn : Nat → Prop} {w : World} {cs : List Value} {s : ChangeD} (h : tChange.rd inn w cs s) : ∃ v1 v2, cs = [.int .i64 s.view, .int .i64 s.src, .int .i64 s.cert.seq, .int .i64 s.cert.digest, v1, v2, .int .i64 s.sign.key, .int .i64 s.sign.digest] ∧ (-9223372036854775808 ≤ s.view ∧ s.view ≤ 9223372036854775807) ∧ (-9223372036854775808 ≤ s.src ∧ s.src ≤ 9223372036854775807) ∧ (-9223372036854775808 ≤ s.cert.seq ∧ s.cert.seq ≤ 9223372036854775807) ∧ (-9223372036854775808 ≤ s.cert.digest ∧ s.cert.digest ≤ 9223372036854775807) ∧ (tL tSign).rd inn w [v1] s.cert.signs ∧ (tL tPrepared).rd inn w [v2] s.above ∧ (-9223372036854775808 ≤ s.sign.key ∧ s.sign.key ≤ 9223372036854775807) ∧ (-9223372036854775808 ≤ s.sign.digest ∧ s.sign.digest ≤ 9223372036854775807) := by
  obtain ⟨c0, e1, rfl, h0, c1, e2, rfl, h1, c2, e3, rfl, h2, c3, c4, rfl, h3, h4⟩ := h
  obtain ⟨rfl, b0⟩ := h0
  obtain ⟨rfl, b1⟩ := h1
  obtain ⟨u2_0, rfl, f2_0, f2_1, f2_2⟩ := tCert.parts h2
  obtain ⟨u3, rfl⟩ := len1 ((tL tPrepared).len h3)
  obtain ⟨rfl, f4_0, f4_1⟩ := tSign.parts h4
  exact ⟨u2_0, u3, rfl, b0, b1, f2_0, f2_1, f2_2, h3, f4_0, f4_1⟩
structure EntryD where
  view : Int
  seq : Int
  batch : List (SignedD)
  sign : SignD
def tEntry : Ty EntryD := tM (tP tI (tP tI (tP (tL tSigned) tSign))) (fun s : EntryD => (s.view, s.seq, s.batch, s.sign))
structure ProofD where
  topic : List UInt8
  offset : Int
  record : List UInt8
  headers : List (HeaderD)
  index : Int
  count : Int
  path : List (Int)
  cert : CertD
def tProof : Ty ProofD := tM (tP tS (tP tI (tP tY (tP (tL tHeader) (tP tI (tP tI (tP (tL tI) tCert))))))) (fun s : ProofD => (s.topic, s.offset, s.record, s.headers, s.index, s.count, s.path, s.cert))
theorem tProof.parts {inn : Nat → Prop} {w : World} {cs : List Value} {s : ProofD} (h : tProof.rd inn w cs s) : ∃ v1 v2 v3 v4, cs = [.string (bstr s.topic), .int .i64 s.offset, v1, v2, .int .i64 s.index, .int .i64 s.count, v3, .int .i64 s.cert.seq, .int .i64 s.cert.digest, v4] ∧ s.topic.length ≤ 4194304 ∧ (-9223372036854775808 ≤ s.offset ∧ s.offset ≤ 9223372036854775807) ∧ tY.rd inn w [v1] s.record ∧ (tL tHeader).rd inn w [v2] s.headers ∧ (-9223372036854775808 ≤ s.index ∧ s.index ≤ 9223372036854775807) ∧ (-9223372036854775808 ≤ s.count ∧ s.count ≤ 9223372036854775807) ∧ (tL tI).rd inn w [v3] s.path ∧ (-9223372036854775808 ≤ s.cert.seq ∧ s.cert.seq ≤ 9223372036854775807) ∧ (-9223372036854775808 ≤ s.cert.digest ∧ s.cert.digest ≤ 9223372036854775807) ∧ (tL tSign).rd inn w [v4] s.cert.signs := by
  obtain ⟨c0, e1, rfl, h0, c1, e2, rfl, h1, c2, e3, rfl, h2, c3, e4, rfl, h3, c4, e5, rfl, h4, c5, e6, rfl, h5, c6, c7, rfl, h6, h7⟩ := h
  obtain ⟨rfl, b0⟩ := h0
  obtain ⟨rfl, b1⟩ := h1
  obtain ⟨u2, rfl⟩ := len1 (tY.len h2)
  obtain ⟨u3, rfl⟩ := len1 ((tL tHeader).len h3)
  obtain ⟨rfl, b4⟩ := h4
  obtain ⟨rfl, b5⟩ := h5
  obtain ⟨u6, rfl⟩ := len1 ((tL tI).len h6)
  obtain ⟨u7_0, rfl, f7_0, f7_1, f7_2⟩ := tCert.parts h7
  exact ⟨u2, u3, u6, u7_0, rfl, b0, b1, h2, h3, b4, b5, h6, f7_0, f7_1, f7_2⟩
theorem tProof.mk {inn : Nat → Prop} {w : World} {s : ProofD} {v1 v2 v3 v4 : Value} (k0 : s.topic.length ≤ 4194304) (k1 : (-9223372036854775808 ≤ s.offset ∧ s.offset ≤ 9223372036854775807)) (k2 : tY.rd inn w [v1] s.record) (k3 : (tL tHeader).rd inn w [v2] s.headers) (k4 : (-9223372036854775808 ≤ s.index ∧ s.index ≤ 9223372036854775807)) (k5 : (-9223372036854775808 ≤ s.count ∧ s.count ≤ 9223372036854775807)) (k6 : (tL tI).rd inn w [v3] s.path) (k7 : (-9223372036854775808 ≤ s.cert.seq ∧ s.cert.seq ≤ 9223372036854775807)) (k8 : (-9223372036854775808 ≤ s.cert.digest ∧ s.cert.digest ≤ 9223372036854775807)) (k9 : (tL tSign).rd inn w [v4] s.cert.signs) : tProof.rd inn w [.string (bstr s.topic), .int .i64 s.offset, v1, v2, .int .i64 s.index, .int .i64 s.count, v3, .int .i64 s.cert.seq, .int .i64 s.cert.digest, v4] s := by
  exact ⟨[.string (bstr s.topic)], [.int .i64 s.offset, v1, v2, .int .i64 s.index, .int .i64 s.count, v3, .int .i64 s.cert.seq, .int .i64 s.cert.digest, v4], rfl, ⟨rfl, k0⟩, [.int .i64 s.offset], [v1, v2, .int .i64 s.index, .int .i64 s.count, v3, .int .i64 s.cert.seq, .int .i64 s.cert.digest, v4], rfl, ⟨rfl, k1⟩, [v1], [v2, .int .i64 s.index, .int .i64 s.count, v3, .int .i64 s.cert.seq, .int .i64 s.cert.digest, v4], rfl, k2, [v2], [.int .i64 s.index, .int .i64 s.count, v3, .int .i64 s.cert.seq, .int .i64 s.cert.digest, v4], rfl, k3, [.int .i64 s.index], [.int .i64 s.count, v3, .int .i64 s.cert.seq, .int .i64 s.cert.digest, v4], rfl, ⟨rfl, k4⟩, [.int .i64 s.count], [v3, .int .i64 s.cert.seq, .int .i64 s.cert.digest, v4], rfl, ⟨rfl, k5⟩, [v3], [.int .i64 s.cert.seq, .int .i64 s.cert.digest, v4], rfl, k6, tCert.mk k7 k8 k9⟩
structure MsgD where
  kind : Int
  src : Int
  view : Int
  seq : Int
  digest : Int
  client : Int
  time : Int
  result : ResultD
  batch : List (SignedD)
  cert : CertD
  changes : List (ChangeD)
  entries : List (EntryD)
  state : List UInt8
  topic : List UInt8
  offset : Int
  proof : ProofD
  sign : SignD
def tMsg : Ty MsgD := tM (tP tI (tP tI (tP tI (tP tI (tP tI (tP tI (tP tI (tP tResult (tP (tL tSigned) (tP tCert (tP (tL tChange) (tP (tL tEntry) (tP tY (tP tS (tP tI (tP tProof tSign)))))))))))))))) (fun s : MsgD => (s.kind, s.src, s.view, s.seq, s.digest, s.client, s.time, s.result, s.batch, s.cert, s.changes, s.entries, s.state, s.topic, s.offset, s.proof, s.sign))
theorem tMsg.parts {inn : Nat → Prop} {w : World} {cs : List Value} {s : MsgD} (h : tMsg.rd inn w cs s) : ∃ v1 v2 v3 v4 v5 v6 v7 v8 v9, cs = [.int .i64 s.kind, .int .i64 s.src, .int .i64 s.view, .int .i64 s.seq, .int .i64 s.digest, .int .i64 s.client, .int .i64 s.time, .int .i64 s.result.err, .int .i64 s.result.offset, v1, .int .i64 s.cert.seq, .int .i64 s.cert.digest, v2, v3, v4, v5, .string (bstr s.topic), .int .i64 s.offset, .string (bstr s.proof.topic), .int .i64 s.proof.offset, v6, v7, .int .i64 s.proof.index, .int .i64 s.proof.count, v8, .int .i64 s.proof.cert.seq, .int .i64 s.proof.cert.digest, v9, .int .i64 s.sign.key, .int .i64 s.sign.digest] ∧ (-9223372036854775808 ≤ s.kind ∧ s.kind ≤ 9223372036854775807) ∧ (-9223372036854775808 ≤ s.src ∧ s.src ≤ 9223372036854775807) ∧ (-9223372036854775808 ≤ s.view ∧ s.view ≤ 9223372036854775807) ∧ (-9223372036854775808 ≤ s.seq ∧ s.seq ≤ 9223372036854775807) ∧ (-9223372036854775808 ≤ s.digest ∧ s.digest ≤ 9223372036854775807) ∧ (-9223372036854775808 ≤ s.client ∧ s.client ≤ 9223372036854775807) ∧ (-9223372036854775808 ≤ s.time ∧ s.time ≤ 9223372036854775807) ∧ (-9223372036854775808 ≤ s.result.err ∧ s.result.err ≤ 9223372036854775807) ∧ (-9223372036854775808 ≤ s.result.offset ∧ s.result.offset ≤ 9223372036854775807) ∧ (tL tSigned).rd inn w [v1] s.batch ∧ (-9223372036854775808 ≤ s.cert.seq ∧ s.cert.seq ≤ 9223372036854775807) ∧ (-9223372036854775808 ≤ s.cert.digest ∧ s.cert.digest ≤ 9223372036854775807) ∧ (tL tSign).rd inn w [v2] s.cert.signs ∧ (tL tChange).rd inn w [v3] s.changes ∧ (tL tEntry).rd inn w [v4] s.entries ∧ tY.rd inn w [v5] s.state ∧ s.topic.length ≤ 4194304 ∧ (-9223372036854775808 ≤ s.offset ∧ s.offset ≤ 9223372036854775807) ∧ s.proof.topic.length ≤ 4194304 ∧ (-9223372036854775808 ≤ s.proof.offset ∧ s.proof.offset ≤ 9223372036854775807) ∧ tY.rd inn w [v6] s.proof.record ∧ (tL tHeader).rd inn w [v7] s.proof.headers ∧ (-9223372036854775808 ≤ s.proof.index ∧ s.proof.index ≤ 9223372036854775807) ∧ (-9223372036854775808 ≤ s.proof.count ∧ s.proof.count ≤ 9223372036854775807) ∧ (tL tI).rd inn w [v8] s.proof.path ∧ (-9223372036854775808 ≤ s.proof.cert.seq ∧ s.proof.cert.seq ≤ 9223372036854775807) ∧ (-9223372036854775808 ≤ s.proof.cert.digest ∧ s.proof.cert.digest ≤ 9223372036854775807) ∧ (tL tSign).rd inn w [v9] s.proof.cert.signs ∧ (-9223372036854775808 ≤ s.sign.key ∧ s.sign.key ≤ 9223372036854775807) ∧ (-9223372036854775808 ≤ s.sign.digest ∧ s.sign.digest ≤ 9223372036854775807) := by
  obtain ⟨c0, e1, rfl, h0, c1, e2, rfl, h1, c2, e3, rfl, h2, c3, e4, rfl, h3, c4, e5, rfl, h4, c5, e6, rfl, h5, c6, e7, rfl, h6, c7, e8, rfl, h7, c8, e9, rfl, h8, c9, e10, rfl, h9, c10, e11, rfl, h10, c11, e12, rfl, h11, c12, e13, rfl, h12, c13, e14, rfl, h13, c14, e15, rfl, h14, c15, c16, rfl, h15, h16⟩ := h
  obtain ⟨rfl, b0⟩ := h0
  obtain ⟨rfl, b1⟩ := h1
  obtain ⟨rfl, b2⟩ := h2
  obtain ⟨rfl, b3⟩ := h3
  obtain ⟨rfl, b4⟩ := h4
  obtain ⟨rfl, b5⟩ := h5
  obtain ⟨rfl, b6⟩ := h6
  obtain ⟨rfl, f7_0, f7_1⟩ := tResult.parts h7
  obtain ⟨u8, rfl⟩ := len1 ((tL tSigned).len h8)
  obtain ⟨u9_0, rfl, f9_0, f9_1, f9_2⟩ := tCert.parts h9
  obtain ⟨u10, rfl⟩ := len1 ((tL tChange).len h10)
  obtain ⟨u11, rfl⟩ := len1 ((tL tEntry).len h11)
  obtain ⟨u12, rfl⟩ := len1 (tY.len h12)
  obtain ⟨rfl, b13⟩ := h13
  obtain ⟨rfl, b14⟩ := h14
  obtain ⟨u15_0, u15_1, u15_2, u15_3, rfl, f15_0, f15_1, f15_2, f15_3, f15_4, f15_5, f15_6, f15_7, f15_8, f15_9⟩ := tProof.parts h15
  obtain ⟨rfl, f16_0, f16_1⟩ := tSign.parts h16
  exact ⟨u8, u9_0, u10, u11, u12, u15_0, u15_1, u15_2, u15_3, rfl, b0, b1, b2, b3, b4, b5, b6, f7_0, f7_1, h8, f9_0, f9_1, f9_2, h10, h11, h12, b13, b14, f15_0, f15_1, f15_2, f15_3, f15_4, f15_5, f15_6, f15_7, f15_8, f15_9, f16_0, f16_1⟩
theorem tMsg.mk {inn : Nat → Prop} {w : World} {s : MsgD} {v1 v2 v3 v4 v5 v6 v7 v8 v9 : Value} (k0 : (-9223372036854775808 ≤ s.kind ∧ s.kind ≤ 9223372036854775807)) (k1 : (-9223372036854775808 ≤ s.src ∧ s.src ≤ 9223372036854775807)) (k2 : (-9223372036854775808 ≤ s.view ∧ s.view ≤ 9223372036854775807)) (k3 : (-9223372036854775808 ≤ s.seq ∧ s.seq ≤ 9223372036854775807)) (k4 : (-9223372036854775808 ≤ s.digest ∧ s.digest ≤ 9223372036854775807)) (k5 : (-9223372036854775808 ≤ s.client ∧ s.client ≤ 9223372036854775807)) (k6 : (-9223372036854775808 ≤ s.time ∧ s.time ≤ 9223372036854775807)) (k7 : (-9223372036854775808 ≤ s.result.err ∧ s.result.err ≤ 9223372036854775807)) (k8 : (-9223372036854775808 ≤ s.result.offset ∧ s.result.offset ≤ 9223372036854775807)) (k9 : (tL tSigned).rd inn w [v1] s.batch) (k10 : (-9223372036854775808 ≤ s.cert.seq ∧ s.cert.seq ≤ 9223372036854775807)) (k11 : (-9223372036854775808 ≤ s.cert.digest ∧ s.cert.digest ≤ 9223372036854775807)) (k12 : (tL tSign).rd inn w [v2] s.cert.signs) (k13 : (tL tChange).rd inn w [v3] s.changes) (k14 : (tL tEntry).rd inn w [v4] s.entries) (k15 : tY.rd inn w [v5] s.state) (k16 : s.topic.length ≤ 4194304) (k17 : (-9223372036854775808 ≤ s.offset ∧ s.offset ≤ 9223372036854775807)) (k18 : s.proof.topic.length ≤ 4194304) (k19 : (-9223372036854775808 ≤ s.proof.offset ∧ s.proof.offset ≤ 9223372036854775807)) (k20 : tY.rd inn w [v6] s.proof.record) (k21 : (tL tHeader).rd inn w [v7] s.proof.headers) (k22 : (-9223372036854775808 ≤ s.proof.index ∧ s.proof.index ≤ 9223372036854775807)) (k23 : (-9223372036854775808 ≤ s.proof.count ∧ s.proof.count ≤ 9223372036854775807)) (k24 : (tL tI).rd inn w [v8] s.proof.path) (k25 : (-9223372036854775808 ≤ s.proof.cert.seq ∧ s.proof.cert.seq ≤ 9223372036854775807)) (k26 : (-9223372036854775808 ≤ s.proof.cert.digest ∧ s.proof.cert.digest ≤ 9223372036854775807)) (k27 : (tL tSign).rd inn w [v9] s.proof.cert.signs) (k28 : (-9223372036854775808 ≤ s.sign.key ∧ s.sign.key ≤ 9223372036854775807)) (k29 : (-9223372036854775808 ≤ s.sign.digest ∧ s.sign.digest ≤ 9223372036854775807)) : tMsg.rd inn w [.int .i64 s.kind, .int .i64 s.src, .int .i64 s.view, .int .i64 s.seq, .int .i64 s.digest, .int .i64 s.client, .int .i64 s.time, .int .i64 s.result.err, .int .i64 s.result.offset, v1, .int .i64 s.cert.seq, .int .i64 s.cert.digest, v2, v3, v4, v5, .string (bstr s.topic), .int .i64 s.offset, .string (bstr s.proof.topic), .int .i64 s.proof.offset, v6, v7, .int .i64 s.proof.index, .int .i64 s.proof.count, v8, .int .i64 s.proof.cert.seq, .int .i64 s.proof.cert.digest, v9, .int .i64 s.sign.key, .int .i64 s.sign.digest] s := by
  exact ⟨[.int .i64 s.kind], [.int .i64 s.src, .int .i64 s.view, .int .i64 s.seq, .int .i64 s.digest, .int .i64 s.client, .int .i64 s.time, .int .i64 s.result.err, .int .i64 s.result.offset, v1, .int .i64 s.cert.seq, .int .i64 s.cert.digest, v2, v3, v4, v5, .string (bstr s.topic), .int .i64 s.offset, .string (bstr s.proof.topic), .int .i64 s.proof.offset, v6, v7, .int .i64 s.proof.index, .int .i64 s.proof.count, v8, .int .i64 s.proof.cert.seq, .int .i64 s.proof.cert.digest, v9, .int .i64 s.sign.key, .int .i64 s.sign.digest], rfl, ⟨rfl, k0⟩, [.int .i64 s.src], [.int .i64 s.view, .int .i64 s.seq, .int .i64 s.digest, .int .i64 s.client, .int .i64 s.time, .int .i64 s.result.err, .int .i64 s.result.offset, v1, .int .i64 s.cert.seq, .int .i64 s.cert.digest, v2, v3, v4, v5, .string (bstr s.topic), .int .i64 s.offset, .string (bstr s.proof.topic), .int .i64 s.proof.offset, v6, v7, .int .i64 s.proof.index, .int .i64 s.proof.count, v8, .int .i64 s.proof.cert.seq, .int .i64 s.proof.cert.digest, v9, .int .i64 s.sign.key, .int .i64 s.sign.digest], rfl, ⟨rfl, k1⟩, [.int .i64 s.view], [.int .i64 s.seq, .int .i64 s.digest, .int .i64 s.client, .int .i64 s.time, .int .i64 s.result.err, .int .i64 s.result.offset, v1, .int .i64 s.cert.seq, .int .i64 s.cert.digest, v2, v3, v4, v5, .string (bstr s.topic), .int .i64 s.offset, .string (bstr s.proof.topic), .int .i64 s.proof.offset, v6, v7, .int .i64 s.proof.index, .int .i64 s.proof.count, v8, .int .i64 s.proof.cert.seq, .int .i64 s.proof.cert.digest, v9, .int .i64 s.sign.key, .int .i64 s.sign.digest], rfl, ⟨rfl, k2⟩, [.int .i64 s.seq], [.int .i64 s.digest, .int .i64 s.client, .int .i64 s.time, .int .i64 s.result.err, .int .i64 s.result.offset, v1, .int .i64 s.cert.seq, .int .i64 s.cert.digest, v2, v3, v4, v5, .string (bstr s.topic), .int .i64 s.offset, .string (bstr s.proof.topic), .int .i64 s.proof.offset, v6, v7, .int .i64 s.proof.index, .int .i64 s.proof.count, v8, .int .i64 s.proof.cert.seq, .int .i64 s.proof.cert.digest, v9, .int .i64 s.sign.key, .int .i64 s.sign.digest], rfl, ⟨rfl, k3⟩, [.int .i64 s.digest], [.int .i64 s.client, .int .i64 s.time, .int .i64 s.result.err, .int .i64 s.result.offset, v1, .int .i64 s.cert.seq, .int .i64 s.cert.digest, v2, v3, v4, v5, .string (bstr s.topic), .int .i64 s.offset, .string (bstr s.proof.topic), .int .i64 s.proof.offset, v6, v7, .int .i64 s.proof.index, .int .i64 s.proof.count, v8, .int .i64 s.proof.cert.seq, .int .i64 s.proof.cert.digest, v9, .int .i64 s.sign.key, .int .i64 s.sign.digest], rfl, ⟨rfl, k4⟩, [.int .i64 s.client], [.int .i64 s.time, .int .i64 s.result.err, .int .i64 s.result.offset, v1, .int .i64 s.cert.seq, .int .i64 s.cert.digest, v2, v3, v4, v5, .string (bstr s.topic), .int .i64 s.offset, .string (bstr s.proof.topic), .int .i64 s.proof.offset, v6, v7, .int .i64 s.proof.index, .int .i64 s.proof.count, v8, .int .i64 s.proof.cert.seq, .int .i64 s.proof.cert.digest, v9, .int .i64 s.sign.key, .int .i64 s.sign.digest], rfl, ⟨rfl, k5⟩, [.int .i64 s.time], [.int .i64 s.result.err, .int .i64 s.result.offset, v1, .int .i64 s.cert.seq, .int .i64 s.cert.digest, v2, v3, v4, v5, .string (bstr s.topic), .int .i64 s.offset, .string (bstr s.proof.topic), .int .i64 s.proof.offset, v6, v7, .int .i64 s.proof.index, .int .i64 s.proof.count, v8, .int .i64 s.proof.cert.seq, .int .i64 s.proof.cert.digest, v9, .int .i64 s.sign.key, .int .i64 s.sign.digest], rfl, ⟨rfl, k6⟩, [.int .i64 s.result.err, .int .i64 s.result.offset], [v1, .int .i64 s.cert.seq, .int .i64 s.cert.digest, v2, v3, v4, v5, .string (bstr s.topic), .int .i64 s.offset, .string (bstr s.proof.topic), .int .i64 s.proof.offset, v6, v7, .int .i64 s.proof.index, .int .i64 s.proof.count, v8, .int .i64 s.proof.cert.seq, .int .i64 s.proof.cert.digest, v9, .int .i64 s.sign.key, .int .i64 s.sign.digest], rfl, tResult.mk k7 k8, [v1], [.int .i64 s.cert.seq, .int .i64 s.cert.digest, v2, v3, v4, v5, .string (bstr s.topic), .int .i64 s.offset, .string (bstr s.proof.topic), .int .i64 s.proof.offset, v6, v7, .int .i64 s.proof.index, .int .i64 s.proof.count, v8, .int .i64 s.proof.cert.seq, .int .i64 s.proof.cert.digest, v9, .int .i64 s.sign.key, .int .i64 s.sign.digest], rfl, k9, [.int .i64 s.cert.seq, .int .i64 s.cert.digest, v2], [v3, v4, v5, .string (bstr s.topic), .int .i64 s.offset, .string (bstr s.proof.topic), .int .i64 s.proof.offset, v6, v7, .int .i64 s.proof.index, .int .i64 s.proof.count, v8, .int .i64 s.proof.cert.seq, .int .i64 s.proof.cert.digest, v9, .int .i64 s.sign.key, .int .i64 s.sign.digest], rfl, tCert.mk k10 k11 k12, [v3], [v4, v5, .string (bstr s.topic), .int .i64 s.offset, .string (bstr s.proof.topic), .int .i64 s.proof.offset, v6, v7, .int .i64 s.proof.index, .int .i64 s.proof.count, v8, .int .i64 s.proof.cert.seq, .int .i64 s.proof.cert.digest, v9, .int .i64 s.sign.key, .int .i64 s.sign.digest], rfl, k13, [v4], [v5, .string (bstr s.topic), .int .i64 s.offset, .string (bstr s.proof.topic), .int .i64 s.proof.offset, v6, v7, .int .i64 s.proof.index, .int .i64 s.proof.count, v8, .int .i64 s.proof.cert.seq, .int .i64 s.proof.cert.digest, v9, .int .i64 s.sign.key, .int .i64 s.sign.digest], rfl, k14, [v5], [.string (bstr s.topic), .int .i64 s.offset, .string (bstr s.proof.topic), .int .i64 s.proof.offset, v6, v7, .int .i64 s.proof.index, .int .i64 s.proof.count, v8, .int .i64 s.proof.cert.seq, .int .i64 s.proof.cert.digest, v9, .int .i64 s.sign.key, .int .i64 s.sign.digest], rfl, k15, [.string (bstr s.topic)], [.int .i64 s.offset, .string (bstr s.proof.topic), .int .i64 s.proof.offset, v6, v7, .int .i64 s.proof.index, .int .i64 s.proof.count, v8, .int .i64 s.proof.cert.seq, .int .i64 s.proof.cert.digest, v9, .int .i64 s.sign.key, .int .i64 s.sign.digest], rfl, ⟨rfl, k16⟩, [.int .i64 s.offset], [.string (bstr s.proof.topic), .int .i64 s.proof.offset, v6, v7, .int .i64 s.proof.index, .int .i64 s.proof.count, v8, .int .i64 s.proof.cert.seq, .int .i64 s.proof.cert.digest, v9, .int .i64 s.sign.key, .int .i64 s.sign.digest], rfl, ⟨rfl, k17⟩, [.string (bstr s.proof.topic), .int .i64 s.proof.offset, v6, v7, .int .i64 s.proof.index, .int .i64 s.proof.count, v8, .int .i64 s.proof.cert.seq, .int .i64 s.proof.cert.digest, v9], [.int .i64 s.sign.key, .int .i64 s.sign.digest], rfl, tProof.mk k18 k19 k20 k21 k22 k23 k24 k25 k26 k27, tSign.mk k28 k29⟩
structure SetupD where
  f : Int
  faulty : Int
  liars : Int
  room : Int
  topic : List UInt8
def tSetup : Ty SetupD := tM (tP tI (tP tW (tP tW (tP tI tS)))) (fun s : SetupD => (s.f, s.faulty, s.liars, s.room, s.topic))
theorem open_Setup : Opens Tryz.prog 25 tSetup := by
  refine opensT (fun p => ⟨p.1, p.2.1, p.2.2.1, p.2.2.2.1, p.2.2.2.2⟩) (fun _ => rfl) Tryz.underlying25 ?_ (by kernel_rfl)
  simp only
  refine opensFc (o' := 1) rfl rfl ?_ ?_
  · exact opensI Tryz.underlying3 (by kernel_rfl)
  refine opensFc (o' := 2) rfl rfl ?_ ?_
  · exact opensW Tryz.underlying23 (by kernel_rfl)
  refine opensFc (o' := 3) rfl rfl ?_ ?_
  · exact opensW Tryz.underlying23 (by kernel_rfl)
  refine opensFc (o' := 4) rfl rfl ?_ ?_
  · exact opensI Tryz.underlying3 (by kernel_rfl)
  refine opensF1 rfl ?_
  exact opensS Tryz.underlying9 (by kernel_rfl)
theorem tSetup.parts {inn : Nat → Prop} {w : World} {cs : List Value} {s : SetupD} (h : tSetup.rd inn w cs s) : cs = [.int .i64 s.f, .int .u16 s.faulty, .int .u16 s.liars, .int .i64 s.room, .string (bstr s.topic)] ∧ (-9223372036854775808 ≤ s.f ∧ s.f ≤ 9223372036854775807) ∧ (0 ≤ s.faulty ∧ s.faulty ≤ 65535) ∧ (0 ≤ s.liars ∧ s.liars ≤ 65535) ∧ (-9223372036854775808 ≤ s.room ∧ s.room ≤ 9223372036854775807) ∧ s.topic.length ≤ 4194304 := by
  obtain ⟨c0, e1, rfl, h0, c1, e2, rfl, h1, c2, e3, rfl, h2, c3, c4, rfl, h3, h4⟩ := h
  obtain ⟨rfl, b0⟩ := h0
  obtain ⟨rfl, b1⟩ := h1
  obtain ⟨rfl, b2⟩ := h2
  obtain ⟨rfl, b3⟩ := h3
  obtain ⟨rfl, b4⟩ := h4
  exact ⟨rfl, b0, b1, b2, b3, b4⟩
theorem tSetup.mk {inn : Nat → Prop} {w : World} {s : SetupD} (k0 : (-9223372036854775808 ≤ s.f ∧ s.f ≤ 9223372036854775807)) (k1 : (0 ≤ s.faulty ∧ s.faulty ≤ 65535)) (k2 : (0 ≤ s.liars ∧ s.liars ≤ 65535)) (k3 : (-9223372036854775808 ≤ s.room ∧ s.room ≤ 9223372036854775807)) (k4 : s.topic.length ≤ 4194304) : tSetup.rd inn w [.int .i64 s.f, .int .u16 s.faulty, .int .u16 s.liars, .int .i64 s.room, .string (bstr s.topic)] s := by
  exact ⟨[.int .i64 s.f], [.int .u16 s.faulty, .int .u16 s.liars, .int .i64 s.room, .string (bstr s.topic)], rfl, ⟨rfl, k0⟩, [.int .u16 s.faulty], [.int .u16 s.liars, .int .i64 s.room, .string (bstr s.topic)], rfl, ⟨rfl, k1⟩, [.int .u16 s.liars], [.int .i64 s.room, .string (bstr s.topic)], rfl, ⟨rfl, k2⟩, [.int .i64 s.room], [.string (bstr s.topic)], rfl, ⟨rfl, k3⟩, ⟨rfl, k4⟩⟩
structure ActD where
  kind : Int
  who : Int
  num : Int
  op : OpD
  bytes : List UInt8
  msg : MsgD
  sealed : Bool
def tAct : Ty ActD := tM (tP tI (tP tI (tP tI (tP tOp (tP tY (tP tMsg tB)))))) (fun s : ActD => (s.kind, s.who, s.num, s.op, s.bytes, s.msg, s.sealed))
structure ScriptD where
  setup : SetupD
  acts : List (ActD)
def tScript : Ty ScriptD := tM (tP tSetup (tL tAct)) (fun s : ScriptD => (s.setup, s.acts))
theorem tScript.mk {inn : Nat → Prop} {w : World} {s : ScriptD} {v1 : Value} (k0 : (-9223372036854775808 ≤ s.setup.f ∧ s.setup.f ≤ 9223372036854775807)) (k1 : (0 ≤ s.setup.faulty ∧ s.setup.faulty ≤ 65535)) (k2 : (0 ≤ s.setup.liars ∧ s.setup.liars ≤ 65535)) (k3 : (-9223372036854775808 ≤ s.setup.room ∧ s.setup.room ≤ 9223372036854775807)) (k4 : s.setup.topic.length ≤ 4194304) (k5 : (tL tAct).rd inn w [v1] s.acts) : tScript.rd inn w [.int .i64 s.setup.f, .int .u16 s.setup.faulty, .int .u16 s.setup.liars, .int .i64 s.setup.room, .string (bstr s.setup.topic), v1] s := by
  exact ⟨[.int .i64 s.setup.f, .int .u16 s.setup.faulty, .int .u16 s.setup.liars, .int .i64 s.setup.room, .string (bstr s.setup.topic)], [v1], rfl, tSetup.mk k0 k1 k2 k3 k4, k5⟩
end Go.Proofs.YtafomdobfmmleaaGreatDoor

/- The types of package api as data: their cells (printed by gen_sv.py). No program here. -/
namespace Go.Proofs.YtafomdobfmmleaaGreatDoor
set_option linter.unusedSectionVars false
variable [Old]
set_option linter.unusedVariables false

def cRec (b : List UInt8) : List D := [.list 1 (b.map cByte)]
def cNum (n : Int) : List D := [.int .i64 n]
def dSign : Dt SignD := dM (dP dI dI) (fun s : SignD => (s.key, s.digest))
def cSign (s : SignD) : List D := [.int .i64 s.key, .int .i64 s.digest]
set_option maxRecDepth 10000 in
theorem LkSign : Lk tSign dSign := LkM _ (LkP LkI LkI)
def dOp : Dt OpD := dM (dP dI (dP dS (dP dS (dP dI (dL dY))))) (fun s : OpD => (s.kind, s.topic, s.group, s.offset, s.records))
def cOp (s : OpD) : List D := [.int .i64 s.kind, .str s.topic, .str s.group, .int .i64 s.offset, .list 1 (s.records.map cRec)]
set_option maxRecDepth 10000 in
theorem LkOp : Lk tOp dOp := LkM _ (LkP LkI (LkP LkS (LkP LkS (LkP LkI (LkL LkY)))))
def dResult : Dt ResultD := dM (dP dI dI) (fun s : ResultD => (s.err, s.offset))
def cResult (s : ResultD) : List D := [.int .i64 s.err, .int .i64 s.offset]
set_option maxRecDepth 10000 in
theorem LkResult : Lk tResult dResult := LkM _ (LkP LkI LkI)
def dRequest : Dt RequestD := dM (dP dI (dP dI dOp)) (fun s : RequestD => (s.client, s.time, s.op))
set_option maxRecDepth 10000 in
theorem LkRequest : Lk tRequest dRequest := LkM _ (LkP LkI (LkP LkI LkOp))
def dSigned : Dt SignedD := dM (dP dRequest dSign) (fun s : SignedD => (s.request, s.sign))
def cSigned (s : SignedD) : List D := [.int .i64 s.request.client, .int .i64 s.request.time, .int .i64 s.request.op.kind, .str s.request.op.topic, .str s.request.op.group, .int .i64 s.request.op.offset, .list 1 (s.request.op.records.map cRec), .int .i64 s.sign.key, .int .i64 s.sign.digest]
set_option maxRecDepth 10000 in
theorem LkSigned : Lk tSigned dSigned := LkM _ (LkP LkRequest LkSign)
def dHeader : Dt HeaderD := dM (dP dI (dP dI (dP dI (dP dI dI)))) (fun s : HeaderD => (s.seq, s.prev, s.batch, s.root, s.state))
def cHeader (s : HeaderD) : List D := [.int .i64 s.seq, .int .i64 s.prev, .int .i64 s.batch, .int .i64 s.root, .int .i64 s.state]
set_option maxRecDepth 10000 in
theorem LkHeader : Lk tHeader dHeader := LkM _ (LkP LkI (LkP LkI (LkP LkI (LkP LkI LkI))))
def dCert : Dt CertD := dM (dP dI (dP dI (dL dSign))) (fun s : CertD => (s.seq, s.digest, s.signs))
def cCert (s : CertD) : List D := [.int .i64 s.seq, .int .i64 s.digest, .list 2 (s.signs.map cSign)]
set_option maxRecDepth 10000 in
theorem LkCert : Lk tCert dCert := LkM _ (LkP LkI (LkP LkI (LkL LkSign)))
def dPrepared : Dt PreparedD := dM (dP dI (dP dI (dP dI (dP dSign (dP (dL dSign) (dL dSigned)))))) (fun s : PreparedD => (s.view, s.seq, s.digest, s.firstS, s.signs, s.batch))
def cPrepared (s : PreparedD) : List D := [.int .i64 s.view, .int .i64 s.seq, .int .i64 s.digest, .int .i64 s.firstS.key, .int .i64 s.firstS.digest, .list 2 (s.signs.map cSign), .list 9 (s.batch.map cSigned)]
set_option maxRecDepth 10000 in
theorem LkPrepared : Lk tPrepared dPrepared := LkM _ (LkP LkI (LkP LkI (LkP LkI (LkP LkSign (LkP (LkL LkSign) (LkL LkSigned))))))
def dChange : Dt ChangeD := dM (dP dI (dP dI (dP dCert (dP (dL dPrepared) dSign)))) (fun s : ChangeD => (s.view, s.src, s.cert, s.above, s.sign))
def cChange (s : ChangeD) : List D := [.int .i64 s.view, .int .i64 s.src, .int .i64 s.cert.seq, .int .i64 s.cert.digest, .list 2 (s.cert.signs.map cSign), .list 7 (s.above.map cPrepared), .int .i64 s.sign.key, .int .i64 s.sign.digest]
set_option maxRecDepth 10000 in
theorem LkChange : Lk tChange dChange := LkM _ (LkP LkI (LkP LkI (LkP LkCert (LkP (LkL LkPrepared) LkSign))))
def dEntry : Dt EntryD := dM (dP dI (dP dI (dP (dL dSigned) dSign))) (fun s : EntryD => (s.view, s.seq, s.batch, s.sign))
def cEntry (s : EntryD) : List D := [.int .i64 s.view, .int .i64 s.seq, .list 9 (s.batch.map cSigned), .int .i64 s.sign.key, .int .i64 s.sign.digest]
set_option maxRecDepth 10000 in
theorem LkEntry : Lk tEntry dEntry := LkM _ (LkP LkI (LkP LkI (LkP (LkL LkSigned) LkSign)))
def dProof : Dt ProofD := dM (dP dS (dP dI (dP dY (dP (dL dHeader) (dP dI (dP dI (dP (dL dI) dCert))))))) (fun s : ProofD => (s.topic, s.offset, s.record, s.headers, s.index, s.count, s.path, s.cert))
def cProof (s : ProofD) : List D := [.str s.topic, .int .i64 s.offset, .list 1 (s.record.map cByte), .list 5 (s.headers.map cHeader), .int .i64 s.index, .int .i64 s.count, .list 1 (s.path.map cNum), .int .i64 s.cert.seq, .int .i64 s.cert.digest, .list 2 (s.cert.signs.map cSign)]
set_option maxRecDepth 10000 in
theorem LkProof : Lk tProof dProof := LkM _ (LkP LkS (LkP LkI (LkP LkY (LkP (LkL LkHeader) (LkP LkI (LkP LkI (LkP (LkL LkI) LkCert)))))))
def dMsg : Dt MsgD := dM (dP dI (dP dI (dP dI (dP dI (dP dI (dP dI (dP dI (dP dResult (dP (dL dSigned) (dP dCert (dP (dL dChange) (dP (dL dEntry) (dP dY (dP dS (dP dI (dP dProof dSign)))))))))))))))) (fun s : MsgD => (s.kind, s.src, s.view, s.seq, s.digest, s.client, s.time, s.result, s.batch, s.cert, s.changes, s.entries, s.state, s.topic, s.offset, s.proof, s.sign))
def cMsg (s : MsgD) : List D := [.int .i64 s.kind, .int .i64 s.src, .int .i64 s.view, .int .i64 s.seq, .int .i64 s.digest, .int .i64 s.client, .int .i64 s.time, .int .i64 s.result.err, .int .i64 s.result.offset, .list 9 (s.batch.map cSigned), .int .i64 s.cert.seq, .int .i64 s.cert.digest, .list 2 (s.cert.signs.map cSign), .list 8 (s.changes.map cChange), .list 5 (s.entries.map cEntry), .list 1 (s.state.map cByte), .str s.topic, .int .i64 s.offset, .str s.proof.topic, .int .i64 s.proof.offset, .list 1 (s.proof.record.map cByte), .list 5 (s.proof.headers.map cHeader), .int .i64 s.proof.index, .int .i64 s.proof.count, .list 1 (s.proof.path.map cNum), .int .i64 s.proof.cert.seq, .int .i64 s.proof.cert.digest, .list 2 (s.proof.cert.signs.map cSign), .int .i64 s.sign.key, .int .i64 s.sign.digest]
set_option maxRecDepth 10000 in
theorem LkMsg : Lk tMsg dMsg := LkM _ (LkP LkI (LkP LkI (LkP LkI (LkP LkI (LkP LkI (LkP LkI (LkP LkI (LkP LkResult (LkP (LkL LkSigned) (LkP LkCert (LkP (LkL LkChange) (LkP (LkL LkEntry) (LkP LkY (LkP LkS (LkP LkI (LkP LkProof LkSign))))))))))))))))
def dSetup : Dt SetupD := dM (dP dI (dP dW (dP dW (dP dI dS)))) (fun s : SetupD => (s.f, s.faulty, s.liars, s.room, s.topic))
def cSetup (s : SetupD) : List D := [.int .i64 s.f, .int .u16 s.faulty, .int .u16 s.liars, .int .i64 s.room, .str s.topic]
set_option maxRecDepth 10000 in
theorem LkSetup : Lk tSetup dSetup := LkM _ (LkP LkI (LkP LkW (LkP LkW (LkP LkI LkS))))
def dAct : Dt ActD := dM (dP dI (dP dI (dP dI (dP dOp (dP dY (dP dMsg dB)))))) (fun s : ActD => (s.kind, s.who, s.num, s.op, s.bytes, s.msg, s.sealed))
def cAct (s : ActD) : List D := [.int .i64 s.kind, .int .i64 s.who, .int .i64 s.num, .int .i64 s.op.kind, .str s.op.topic, .str s.op.group, .int .i64 s.op.offset, .list 1 (s.op.records.map cRec), .list 1 (s.bytes.map cByte), .int .i64 s.msg.kind, .int .i64 s.msg.src, .int .i64 s.msg.view, .int .i64 s.msg.seq, .int .i64 s.msg.digest, .int .i64 s.msg.client, .int .i64 s.msg.time, .int .i64 s.msg.result.err, .int .i64 s.msg.result.offset, .list 9 (s.msg.batch.map cSigned), .int .i64 s.msg.cert.seq, .int .i64 s.msg.cert.digest, .list 2 (s.msg.cert.signs.map cSign), .list 8 (s.msg.changes.map cChange), .list 5 (s.msg.entries.map cEntry), .list 1 (s.msg.state.map cByte), .str s.msg.topic, .int .i64 s.msg.offset, .str s.msg.proof.topic, .int .i64 s.msg.proof.offset, .list 1 (s.msg.proof.record.map cByte), .list 5 (s.msg.proof.headers.map cHeader), .int .i64 s.msg.proof.index, .int .i64 s.msg.proof.count, .list 1 (s.msg.proof.path.map cNum), .int .i64 s.msg.proof.cert.seq, .int .i64 s.msg.proof.cert.digest, .list 2 (s.msg.proof.cert.signs.map cSign), .int .i64 s.msg.sign.key, .int .i64 s.msg.sign.digest, .bool s.sealed]
set_option maxRecDepth 10000 in
theorem LkAct : Lk tAct dAct := LkM _ (LkP LkI (LkP LkI (LkP LkI (LkP LkOp (LkP LkY (LkP LkMsg LkB))))))
end Go.Proofs.YtafomdobfmmleaaGreatDoor

/- Walks computed: the steps of a proof, one for each form of the tree. No program here. -/
namespace Go.Proofs.YtafomdobfmmleaaGreatDoor
open Go.RowKit
set_option linter.unusedSectionVars false
variable [Wd]
set_option linter.unusedVariables false

/-- what a function computes: its answer, of data alone -/
abbrev FnP (P : Program) (f : FuncId) (ar : List D) (r : D) : Prop := FnS P f ar [] (fun r' h' => r' = r ∧ h' = [])
theorem ren_pure (σ : List Nat) : ∀ (d : D), pureD d = true → d.ren σ = d
  | .agg cs, h => by simp only [D.ren]; rw [go cs h]
  | .tup cs, h => by simp only [D.ren]; rw [go cs h]
  | .fn f n cs, h => by simp only [D.ren]; rw [go cs h]
  | .bool _, _ | .int _ _, _ | .str _, _ | .list _ _, _ | .own _ _, _ | .nils, _ | .nilp, _ | .nilf, _ | .nilm, _ | .ref _, _ => rfl
  | .ptr _ _, h | .row _, h | .rowp _ _ _ _, h | .ifc _, h | .ifn _, h | .any, h | .bad, h => by cases h
  where go : ∀ (cs : List D), pureD.pl cs = true → D.ren.rl σ cs = cs
  | [], _ => rfl
  | d :: ds, h => by
    simp only [pureD.pl, Bool.and_eq_true] at h
    rw [D.ren.rl, ren_pure σ d h.1, go ds h.2]
theorem frzD_nil (h : List AO) : ∀ d : D, d.frz h [] = d
  | .agg cs => by simp only [D.frz]; rw [go cs]
  | .tup cs => by simp only [D.frz]; rw [go cs]
  | .row o => rfl
  | .fn _ _ _ => rfl
  | .bool _ | .int _ _ | .str _ | .list _ _ | .own _ _ | .nils | .nilp | .nilf | .nilm | .ref _ | .ptr _ _ | .rowp _ _ _ _ | .ifc _ | .ifn _ | .any | .bad => rfl
  where go : ∀ cs : List D, D.frz.fl h [] cs = cs
  | [] => rfl
  | d :: ds => by rw [D.frz.fl, frzD_nil h d, go ds]
theorem frH_nil (h : List AO) : ∀ (l : List AO) (k : Nat), frH h [] k l = l
  | [], k => rfl
  | a :: l, k => by
    rw [frH, frH_nil h l]
    cases a with
    | cells t cs => simp only [AO.frz, frzD_nil.go]; rfl
    | row t n xs => rfl
    | gone => rfl
theorem frz_nil (s : S) : s.frz [] = s := by
  cases s with
  | mk t h =>
    simp only [S.frz, frH_nil]
    congr 1
    rw [show (fun x : Nat × D => (x.1, x.2.frz h [])) = id from funext fun x => by rw [frzD_nil]; rfl]
    simp
section
variable {P : Program} {Q : Exit → S → Prop}
theorem okBr {b : Bool} {t f : T} (h1 : b = true → t.ok P Q) (h2 : b = false → f.ok P Q) : (T.br b t f).ok P Q := ⟨h1, h2⟩
theorem okBrT {t f : T} (h : t.ok P Q) : (T.br true t f).ok P Q := ⟨fun _ => h, fun e => (by cases e)⟩
theorem okBrF {t f : T} (h : f.ok P Q) : (T.br false t f).ok P Q := ⟨fun e => (by cases e), fun _ => h⟩
theorem okAsk {p : Prop} {t : T} (h : p) (k : t.ok P Q) : (T.ask p t).ok P Q := ⟨h, k⟩
theorem okBoth {a b : T} (h : a.ok P Q) (k : b.ok P Q) : (T.both a b).ok P Q := ⟨h, k⟩
theorem okWrap {k : IntKind} {e : Int} {c : Int → T} (hw : k.wrap e = e) (h : (c e).ok P Q) : (T.wrap k e c).ok P Q := by
  show (c (k.wrap e)).ok P Q
  rw [hw]; exact h
theorem okRaw {k : IntKind} {e : Int} {c : Int → T} (h : (c (k.wrap e)).ok P Q) : (T.wrap k e c).ok P Q := h
theorem okNth {xs : List (List D)} {i : Int} {c : List D → T} (x : List D) (h0 : 0 ≤ i) (h1 : xs[i.toNat]? = some x) (h : (c x).ok P Q) : (T.nth xs i c).ok P Q := ⟨x, h0, h1, h⟩
theorem okNthMap {α : Type} {l : List α} {f : α → List D} {q : Nat} {c : List D → T} (hq : q < l.length) (h : ∀ x, l[q]? = some x → (c (f x)).ok P Q) : (T.nth (l.map f) (q : Int) c).ok P Q :=
  ⟨f l[q], Int.natCast_nonneg q, by simp [hq], h _ (List.getElem?_eq_getElem hq)⟩
theorem okByte {s : List UInt8} {i : Int} {c : UInt8 → T} (x : UInt8) (h0 : 0 ≤ i) (h1 : s[i.toNat]? = some x) (h : (c x).ok P Q) : (T.byte s i c).ok P Q := ⟨x, h0, h1, h⟩
theorem okByts {xs : List (List D)} {c : List UInt8 → T} (s : List UInt8) (h1 : xs = s.map cByte) (h : (c s).ok P Q) : (T.byts xs c).ok P Q := ⟨s, h1, h⟩
/-- a call of what only computes -/
theorem okFn {f : FuncId} {ar ar' : List D} {h : List AO} {c : D → List AO → T} {r : D} (hF : FnP P f ar r) (hp : pureD.pl ar = true) (hc : Cos ar' ar) (k : (c r h).ok P Q) : (T.call f ar' h c).ok P Q :=
  ⟨_, hF.pure (R := fun r' => r' = r) hp hc, fun r' h' ⟨e1, e2⟩ => by subst e1 e2; exact k⟩
/-- a call beside objects -/
theorem okCall {f : FuncId} {ar ar' : List D} {hs hb : List AO} {c : D → List AO → T} {r : D} {hs' : List AO} (σ : List Nat) (hF : FnS P f ar hs (fun r' h' => r' = r ∧ h' = hs')) (V : View σ hb hs) (hc : Cos ar' (D.ren.rl σ ar)) (hM : (σ.all fun o => (foot hb ar').elem o) = true) (k : (c (r.ren (upS hb σ hs hs')) (upH hb σ hs hs')).ok P Q) : (T.call f ar' hb c).ok P Q :=
  ⟨_, hF.big V hc (fun o ho => by have := List.all_eq_true.1 hM o ho; simpa using this), fun r' h' ⟨r0, h0, ⟨e1, e2⟩, e3, e4⟩ => by subst e1 e2 e3 e4; exact k⟩
/-- the end of what only computes -/
theorem endFn {tb : TT} {rs : List ResultVar} {e : Exit} {s : S} {r : D} (fz : List Nat) {ds : List D} (he : e = .normal ∨ e = .ret) (hr : resD tb (s.frz fz) rs = some ds) (hco : Co (resV ds) r) (hp : pureD r = true) : (T.leaf e s).ok P (Lf tb rs [] (fun r' h' => r' = r ∧ h' = [])) :=
  ⟨he, fz, ds, hr, [], r, r, [], ⟨rfl, fun i j o h => by simp at h, fun i o a h => by simp at h⟩, hco, (ren_pure [] r hp).symm, fun o t cs h => by simp at h, rfl, rfl⟩
theorem endFn0 {tb : TT} {rs : List ResultVar} {e : Exit} {s : S} {r : D} {ds : List D} (he : e = .normal ∨ e = .ret) (hr : resD tb s rs = some ds) (hco : Co (resV ds) r) (hp : pureD r = true) : (T.leaf e s).ok P (Lf tb rs [] (fun r' h' => r' = r ∧ h' = [])) :=
  endFn [] he (by rw [frz_nil]; exact hr) hco hp
theorem endInt {tb : TT} {rs : List ResultVar} {e : Exit} {s : S} {k : IntKind} {n m : Int} (he : e = .normal ∨ e = .ret) (hr : resD tb s rs = some [.int k n]) (h : n = m) : (T.leaf e s).ok P (Lf tb rs [] (fun r' h' => r' = .int k m ∧ h' = [])) := by
  subst h
  exact endFn0 he hr (.refl _) rfl
theorem endBool {tb : TT} {rs : List ResultVar} {e : Exit} {s : S} {n m : Bool} (he : e = .normal ∨ e = .ret) (hr : resD tb s rs = some [.bool n]) (h : n = m) : (T.leaf e s).ok P (Lf tb rs [] (fun r' h' => r' = .bool m ∧ h' = [])) := by
  subst h
  exact endFn0 he hr (.refl _) rfl
end
/-! views, told one by one -/
def nodupB : List Nat → Bool
  | [] => true
  | o :: r => !r.elem o && nodupB r
def vwP (h : List AO) (σ : List Nat) : List Nat → List AO → Prop
  | [], [] => True
  | o :: r, a :: l => (Nat.blt o h.length = true ∧ lh h o = a.ren σ) ∧ vwP h σ r l
  | _, _ => False
theorem nodupB_ok : ∀ {l : List Nat}, nodupB l = true → ∀ (i j o : Nat), l[i]? = some o → l[j]? = some o → i = j
  | [], _, i, j, o, h, _ => by simp at h
  | x :: r, h, i, j, o, h1, h2 => by
    simp only [nodupB, Bool.and_eq_true, Bool.not_eq_true'] at h
    have hx : x ∉ r := by
      intro hm
      have : r.elem x = true := by simpa using hm
      rw [this] at h
      cases h.1
    cases i with
    | zero =>
      cases j with
      | zero => rfl
      | succ j =>
        simp at h1 h2
        subst h1
        exact absurd (List.mem_of_getElem? h2) hx
    | succ i =>
      cases j with
      | zero =>
        simp at h1 h2
        subst h2
        exact absurd (List.mem_of_getElem? h1) hx
      | succ j =>
        simp at h1 h2
        rw [nodupB_ok h.2 i j o h1 h2]
theorem lh_of {h : List AO} {o : Nat} {a : AO} (hl : o < h.length) (k : lh h o = a) : h[o]? = some a := by
  have : ∀ (l : List AO) (n : Nat), n < l.length → l[n]? = some (lh l n) := by
    intro l
    induction l with
    | nil => intro n h; simp at h
    | cons b l ih =>
      intro n h
      cases n with
      | zero => simp [lh]
      | succ n => simp at h; simp [lh, ih n h]
  rw [this h o hl, k]
theorem vwP_get {h : List AO} {σ : List Nat} : ∀ {r : List Nat} {l : List AO}, vwP h σ r l → r.length = l.length ∧ ∀ (i o : Nat) a, r[i]? = some o → l[i]? = some a → h[o]? = some (a.ren σ)
  | [], [], _ => ⟨rfl, fun i o a h => by simp at h⟩
  | o :: r, a :: l, k => by
    obtain ⟨⟨k1, k2⟩, k3⟩ := k
    obtain ⟨e1, e2⟩ := vwP_get k3
    refine ⟨by simp [e1], fun i o' a' h1 h2 => ?_⟩
    cases i with
    | zero => simp at h1 h2; subst h1 h2; exact lh_of (Nat.le_of_ble_eq_true k1) k2
    | succ i => simp at h1 h2; exact e2 i o' a' h1 h2
  | [], _ :: _, k => k.elim
  | _ :: _, [], k => k.elim
theorem View.mk' {σ : List Nat} {h h' : List AO} (hn : nodupB σ = true) (hv : vwP h σ σ h') : View σ h h' :=
  ⟨(vwP_get hv).1, nodupB_ok hn, (vwP_get hv).2⟩
def svT (t : List (Nat × D)) (σ : List Nat) : List (Nat × D) → Prop
  | [] => True
  | (j, d) :: r => lk t j = d.ren σ ∧ svT t σ r
theorem svT_ok {t : List (Nat × D)} {σ : List Nat} : ∀ {l : List (Nat × D)}, svT t σ l → ∀ j, lk l j = .any ∨ lk t j = (lk l j).ren σ
  | [], _, j => .inl rfl
  | (i, d) :: r, k, j => by
    simp only [lk]
    cases hb : Nat.beq j i with
    | true =>
      cases Nat.eq_of_beq_eq_true hb
      exact .inr k.1
    | false => exact svT_ok k.2 j
def idB : Nat → List Nat → Bool
  | 0, _ => true
  | n + 1, σ => (match ln σ n with | some o => Nat.beq o n | none => false) && idB n σ
theorem idB_ok {σ : List Nat} : ∀ {m : Nat}, idB m σ = true → ∀ i, i < m → σ[i]? = some i
  | 0, _, i, h => by omega
  | n + 1, h, i, hi => by
    simp only [idB, Bool.and_eq_true] at h
    by_cases e : i = n
    · subst e
      rw [← ln_get]
      cases hl : ln σ i with
      | none => rw [hl] at h; cases h.1
      | some o => rw [hl] at h; rw [Nat.eq_of_beq_eq_true h.1]
    · exact idB_ok h.2 i (by omega)
theorem Sv.mk' {m : Nat} {s s' : S} (σ : List Nat) (h1 : (nodupB σ && idB m σ) = true) (h2 : vwP s.h σ σ s'.h) (h3 : svT s.t σ s'.t) : Sv m s s' := by
  rw [Bool.and_eq_true] at h1
  exact ⟨σ, .mk' h1.1 h2, idB_ok h1.2, svT_ok h3⟩
theorem okLoop {P : Program} {Q : Exit → S → Prop} {α : Type} {m : Nat} {s : S} {body : S → T} {c : Exit → S → T} (st : α → S) (J : α → Prop) (μ : α → Nat) (a0 : α) (h0 : J a0) (hv : Sv m s (st a0))
    (hb : ∀ a, J a → (body (st a)).ok P fun e s' => match e with
      | .normal => ∃ a', Sv m s' (st a') ∧ J a' ∧ μ a' < μ a
      | e => (c e s').ok P Q) : (T.loop m s body c).ok P Q := by
  classical
  have hex : ∀ s, (∃ a, s = st a ∧ J a) → ∃ n, ∃ a, s = st a ∧ J a ∧ μ a = n := fun s ⟨a, h1, h2⟩ => ⟨_, a, h1, h2, rfl⟩
  let μ' : S → Nat := fun s => if hh : ∃ a, s = st a ∧ J a then Classical.choose (least (hex s hh)) else 0
  have hsp : ∀ s (hh : ∃ a, s = st a ∧ J a), μ' s = Classical.choose (least (hex s hh)) := fun s hh => by simp only [μ', dif_pos hh]
  have hle : ∀ a, J a → μ' (st a) ≤ μ a := fun a h2 => by
    have hh : ∃ b, st a = st b ∧ J b := ⟨a, rfl, h2⟩
    rw [hsp _ hh]
    exact (Classical.choose_spec (least (hex _ hh))).2 _ ⟨a, rfl, h2, rfl⟩
  have hat : ∀ s, (∃ a, s = st a ∧ J a) → ∃ a, s = st a ∧ J a ∧ μ a = μ' s := fun s hh => by
    rw [hsp s hh]
    exact (Classical.choose_spec (least (hex s hh))).1
  refine ⟨fun s => ∃ a, s = st a ∧ J a, μ', ⟨st a0, hv, a0, rfl, h0⟩, fun s0 hs => ?_⟩
  obtain ⟨a, rfl, hJ, hμ⟩ := hat s0 hs
  refine T.ok_mono (fun e s' he => ?_) (hb a hJ)
  cases e with
  | normal =>
    obtain ⟨a', k1, k2, k3⟩ := he
    exact ⟨st a', k1, ⟨a', rfl, k2⟩, by have := hle a' k2; omega⟩
  | _ => exact he
theorem okAgain {P : Program} {Q : Exit → S → Prop} {α : Type} {m n : Nat} {s' : S} {c : Exit → S → T} {st : α → S} {J : α → Prop} {μ : α → Nat} (a' : α) (hv : Sv m s' (st a')) (hJ : J a') (hμ : μ a' < n) : (T.leaf .normal s').ok P (fun e s' => match e with
      | .normal => ∃ a', Sv m s' (st a') ∧ J a' ∧ μ a' < n
      | e => (c e s').ok P Q) := ⟨a', hv, hJ, hμ⟩
theorem okOut {P : Program} {Q : Exit → S → Prop} {α : Type} {m n : Nat} {s' : S} {c : Exit → S → T} {st : α → S} {J : α → Prop} {μ : α → Nat} {id : Nat} (h : (c (.exit id) s').ok P Q) : (T.leaf (.exit id) s').ok P (fun e s' => match e with
      | .normal => ∃ a', Sv m s' (st a') ∧ J a' ∧ μ a' < n
      | e => (c e s').ok P Q) := h
theorem okRet {P : Program} {Q : Exit → S → Prop} {α : Type} {m n : Nat} {s' : S} {c : Exit → S → T} {st : α → S} {J : α → Prop} {μ : α → Nat} (h : (c .ret s').ok P Q) : (T.leaf .ret s').ok P (fun e s' => match e with
      | .normal => ∃ a', Sv m s' (st a') ∧ J a' ∧ μ a' < n
      | e => (c e s').ok P Q) := h
/-- the objects that came in keep their names -/
def keepP : Nat → List AO → List Nat → List AO → Prop
  | _, [], _, _ => True
  | i, .cells _ _ :: r, σ, h' => (ln σ i = some i ∧ isC (lh h' i) = true) ∧ keepP (i + 1) r σ h'
  | i, _ :: r, σ, h' => keepP (i + 1) r σ h'
theorem keepP_ok {σ : List Nat} {h' : List AO} : ∀ {h : List AO} {k : Nat}, keepP k h σ h' → ∀ (o : Nat) t cs, h[o]? = some (.cells t cs) → σ[k + o]? = some (k + o) ∧ ∃ t' cs', h'[k + o]? = some (.cells t' cs')
  | [], k, _, o, t, cs, h1 => by simp at h1
  | a :: r, k, hk, o, t, cs, h1 => by
    have hr : keepP (k + 1) r σ h' := by cases a <;> first | exact hk.2 | exact hk
    cases o with
    | zero =>
      simp at h1
      subst h1
      obtain ⟨⟨k1, k2⟩, _⟩ := hk
      rw [ln_get] at k1
      exact ⟨k1, isC_lh k2⟩
    | succ o =>
      simp at h1
      have := keepP_ok hr o t cs h1
      rw [show k + (o + 1) = k + 1 + o from by omega]
      exact this
section
variable {P : Program}
/-- the end of what changes objects -/
theorem endObj {tb : TT} {rs : List ResultVar} {e : Exit} {s : S} {h : List AO} {r : D} {h' : List AO} {ds : List D} (σ : List Nat) (he : e = .normal ∨ e = .ret) (hr : resD tb s rs = some ds) (hn : nodupB σ = true) (hv : vwP s.h σ σ h') (hk : keepP 0 h σ h') (hco : Co (resV ds) (r.ren σ)) :
    (T.leaf e s).ok P (Lf tb rs h (fun r' h'' => r' = r ∧ h'' = h')) :=
  ⟨he, [], ds, by rw [frz_nil]; exact hr, σ, r, _, h', by rw [frz_nil]; exact .mk' hn hv, hco, rfl, fun o t cs h1 => by have := keepP_ok hk o t cs h1; simpa using this, rfl, rfl⟩
end
theorem Co.of_eq {d e : D} (h : d = e) : Co d e := by subst h; exact .refl _
end Go.Proofs.YtafomdobfmmleaaGreatDoor
