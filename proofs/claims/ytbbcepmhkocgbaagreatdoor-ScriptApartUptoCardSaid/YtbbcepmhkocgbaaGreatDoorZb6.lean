/- Lemmas and contracts, part 6. -/
import Derived.Test.YtbbcepmhkocgbaaGreatDoorZb5
import Derived.Test.YtbbcepmhkocgbaaGreatDoorRows
import Derived.Deep.RegionLaw
import Derived.Deep.Slices
import Derived.Deep.Fields
import Derived.ChangeSame
import Derived.SizedLaws
import Derived.JoinedCond
/- Clones, comparisons of bytes. -/
namespace Go.Proofs.YtbbcepmhkocgbaaGreatDoor
open Go.ChangeShapes Go.WideShapes Go.ChangeAt Go.RowKit Go.Deep
set_option linter.unusedVariables false
theorem info5 : (Tryz.prog.info? 5).map (fun i => (i.zero, i.size, i.bytes)) = some (some (.int .u8 0), 1, 1) := by kernel_rfl
/-- a fresh copy -/
def ClonePost (w : World) (bs : List UInt8) (e : Ending) (w' : World) : Prop := ∃ v', e = .returned v' ∧ w'.ownsRow w.heap.size 5 1 v' bs.length (cellsB bs) ∧ B w w'
set_option maxHeartbeats 400000 in
theorem clone89 {w : World} {v : Value} {bs : List UInt8} (h : Bs w v bs) : Calls Tryz.prog 83 #[v] w (ClonePost w bs) := by
  rcases h.isNil with ⟨rfl, rfl⟩ | ⟨ad, cap, rfl⟩
  · have q : ∀ w, (binOp .eql 37 (.slice none 0 0) (.slice none 0 0)).run Tryz.prog w = .ok (.bool true) w := fun w => by kernel_rfl
    have E := Lib.hid (show ClonePost w [] (.returned (.slice none 0 0)) w from ⟨_, rfl, ownNil w _ _ _, Below.refl _ _⟩)
    clear h
    go_enter Tryz.func83, Tryz.ntmps83
    go_wp2
    go_ret
    exact E.out
  · have q : ∀ w, (binOp .eql 37 (.slice (some ad) bs.length cap) (.slice none 0 0)).run Tryz.prog w = .ok (.bool false) w := fun w => by kernel_rfl
    have hb : B w (w.alloc (.cells #[] 5)) := B.alloc' _ _
    have ho : (w.alloc (.cells #[] 5)).ownsRow w.heap.size 5 1 (.slice (some ⟨w.heap.size, 0, none⟩) 0 0) ([] : List UInt8).length (cellsB []) := ⟨rfl, .inr ⟨_, 0, #[], rfl, Nat.le_refl _, heap_alloc_new w _, Nat.le_refl _, by unfold maxLen; omega, rfl, rfl⟩⟩
    obtain ⟨v', w', hrun, h2, h3, h4⟩ := append_Bs (P := Tryz.prog) (t := 37) (ty := 47) Tryz.underlying37 info5 ho (h.later hb) (by have := h.len; simpa using this) (by simp)
    have E := Lib.hid (show ClonePost w bs (.returned v') w' from ⟨_, rfl, h2, hb.grown h3 (fun k hk => by simp [Value.ownBlock] at hk; omega)⟩)
    clear h ho h2 h3 h4 hb
    go_enter Tryz.func83, Tryz.ntmps83
    go_wp2_with (at_builtin; refine wpList_append_run rfl (.tmp 5) (.tmp 6) 37 rfl rfl rfl hrun ?_)
    go_ret
    exact E.out
set_option maxHeartbeats 400000 in
theorem equal68 {w : World} {v u : Value} {a b : List UInt8} (h : Bs w v a) (k : Bs w u b) : Calls Tryz.prog 12 #[v, u] w fun e w' => e = .returned (.bool (a == b)) ∧ w = w' := by
  have h1 := h.conv (P := Tryz.prog) (src := 37) (dst := 9) Tryz.underlying37 Tryz.underlying5 Tryz.underlying9
  have h2 := k.conv (P := Tryz.prog) (src := 37) (dst := 9) Tryz.underlying37 Tryz.underlying5 Tryz.underlying9
  clear h k
  go_enter Tryz.func12, Tryz.ntmps12
  go_wp2
  go_ret
  exact ⟨by simp [bstr_toList], rfl⟩
/-- what is put: fresh bytes -/
def Fresh (w : World) (bs : List UInt8) (e : Ending) (w' : World) : Prop := ∃ v', e = .returned v' ∧ w'.ownsRow w.heap.size 5 1 v' bs.length (cellsB bs) ∧ B w w'
theorem size5 (w : World) : (sizeOf 5).run Tryz.prog w = .ok 1 w := by kernel_rfl
theorem elem47 : Tryz.prog.elem 37 = 5 := by kernel_rfl
theorem add_of_add (a : Addr) (i j : Nat) : (a.add i).add j = a.add (i + j) := by
  unfold Addr.add
  by_cases hi : i = 0 <;> by_cases hj : j = 0 <;> simp [hi, hj, Nat.add_assoc]
theorem cellsB_drop (bs : List UInt8) (k j : Nat) : (cellsB (bs.drop k))[j]? = (cellsB bs)[k + j]? := by
  simp [cellsB, List.getElem?_drop]
theorem cellsB_take (bs : List UInt8) (k j : Nat) (u : Value) (h : (cellsB (bs.take k))[j]? = some u) : (cellsB bs)[j]? = some u := by
  simp only [cellsB, List.getElem?_map, List.getElem?_take] at h ⊢
  split at h
  · exact h
  · simp at h
/-- 'v[k:]' -/
theorem Bs.cut {w : World} {v : Value} {bs : List UInt8} (h : Bs w v bs) (k : Nat) (hk : k ≤ bs.length) : ∃ A c, (∀ w' : World, (Instr.slice 37 v (some (.int .i64 (k : Int))) none none).run Tryz.prog w' = .ok (.slice A (bs.length - k) c) w') ∧ (∀ w' : World, (Instr.sliceAt 37 v (some (.int .i64 (k : Int))) none none).run Tryz.prog w' = .ok (.slice A (bs.length - k) c) w') ∧
    Bs w (.slice A (bs.length - k) c) (bs.drop k) ∧ ∀ g, (Value.slice A (bs.length - k) c).ownBlock = some g → v.ownBlock = some g := by
  obtain ⟨⟨A, cap, rfl, hn, hc, hm, hr⟩, hl⟩ := h
  have hs : ∀ w' : World, (Instr.slice 37 (.slice A bs.length cap) (some (.int .i64 (k : Int))) none none).run Tryz.prog w' = .ok (.slice (if cap = k then A else A.map (·.add k)) (bs.length - k) (cap - k)) w' := fun w' => by
    rw [run_slice_l (P := Tryz.prog) (w := w') (t := 37) (a := A) (len := bs.length) (cap := cap) (by rw [elem47]; exact Tryz.underlying37) .i64 (k : Int) (by omega) (by omega), elem47, size5]
    simp [Result.andThen, sliced]
  refine ⟨_, _, hs, fun w' => ?_, ⟨⟨_, _, by rw [List.length_drop], fun e => ?_, by simp; omega, by omega, fun ad had => ?_⟩, by simp; omega⟩, fun g hg => ?_⟩
  · rw [run_sliceAt_slice (P := Tryz.prog) (w := w') (t := 37) (h := by rw [elem47]; exact Tryz.underlying37)]
    exact hs w'
  · by_cases e1 : cap = k
    · rw [if_pos e1] at e
      obtain ⟨rfl, rfl⟩ := hn e
      exact ⟨by simp, by omega⟩
    · rw [if_neg e1] at e
      cases A with
      | none => obtain ⟨rfl, rfl⟩ := hn rfl; exact ⟨by simp, by omega⟩
      | some a => simp at e
  · by_cases e1 : cap = k
    · have : bs.drop k = [] := List.drop_eq_nil_of_le (by omega)
      rw [this]
      exact ⟨fun h => absurd rfl h, fun j u hu => by simp [cellsB] at hu⟩
    · rw [if_neg e1] at had
      cases A with
      | none => simp at had
      | some a =>
        simp at had
        subst had
        obtain ⟨h1, h2⟩ := hr a rfl
        refine ⟨fun hne => by rw [block_of_add]; exact h1 (fun e => hne (by rw [e]; simp)), fun j u hu => ?_⟩
        rw [add_of_add]
        rw [cellsB_drop] at hu
        exact h2 _ u hu
  · by_cases e1 : cap = k
    · rw [if_pos e1] at hg
      cases A with
      | none => simp [Value.ownBlock] at hg
      | some a => simpa [Value.ownBlock] using hg
    · rw [if_neg e1] at hg
      cases A with
      | none => simp [Value.ownBlock] at hg
      | some a => simpa [Value.ownBlock, block_of_add] using hg
/-- 'v[:k]' -/
theorem Bs.cutTo {w : World} {v : Value} {bs : List UInt8} (h : Bs w v bs) (k : Nat) (hk : k ≤ bs.length) : ∃ A c, (∀ w' : World, (Instr.slice 37 v none (some (.int .i64 (k : Int))) none).run Tryz.prog w' = .ok (.slice A k c) w') ∧ (∀ w' : World, (Instr.sliceAt 37 v none (some (.int .i64 (k : Int))) none).run Tryz.prog w' = .ok (.slice A k c) w') ∧
    Bs w (.slice A k c) (bs.take k) ∧ ∀ g, (Value.slice A k c).ownBlock = some g → v.ownBlock = some g := by
  obtain ⟨⟨A, cap, rfl, hn, hc, hm, hr⟩, hl⟩ := h
  have hs : ∀ w' : World, (Instr.slice 37 (.slice A bs.length cap) none (some (.int .i64 (k : Int))) none).run Tryz.prog w' = .ok (.slice A k cap) w' := fun w' => by
    rw [run_slice_h (P := Tryz.prog) (w := w') (t := 37) (a := A) (len := bs.length) (cap := cap) (by rw [elem47]; exact Tryz.underlying37) .i64 (k : Int) (by omega) (by omega), elem47, size5]
    simp [Result.andThen, sliced, Addr.add]
  refine ⟨_, _, hs, fun w' => ?_, ⟨⟨_, _, by rw [List.length_take, Nat.min_eq_left hk], fun e => ?_, by simp; omega, hm, fun ad had => ?_⟩, by simp; omega⟩, fun g hg => by
    cases A with
    | none => simp [Value.ownBlock] at hg
    | some a => simpa [Value.ownBlock] using hg⟩
  · rw [run_sliceAt_slice (P := Tryz.prog) (w := w') (t := 37) (h := by rw [elem47]; exact Tryz.underlying37)]
    exact hs w'
  · obtain ⟨rfl, rfl⟩ := hn e; exact ⟨by simp, rfl⟩
  · obtain ⟨h1, h2⟩ := hr ad had
    exact ⟨fun hne => h1 (fun e => hne (by rw [e]; simp)), fun j u hu => h2 j u (cellsB_take bs k j u hu)⟩
theorem B.drewN' {w : World} (n : Nat) : B w (w.drewN n) := ⟨rfl, rfl, rfl, Nat.le_refl _, fun _ _ => rfl⟩
section
variable {P : Program} {W w : World} {ops : Array Oper} {rest : List Oper} {o : Oper} {a : Act} {Q : Exit → Act → World → Prop} {L : List Asn}
/-- append onto a row that is an object of its own -/
theorem wpList_append_St (hgd : o.guard = none) (s x : Operand) (t : TypeId) (ho : o.op = .call { callee := .builtin .append, args := #[s, x], argTypes := #[t, t] })
    {e : TypeId} {z : Value} {sz bytes : Nat} (ht : P.underlying t = some (.slice e)) (hie : (P.info? e).map (fun i => (i.zero, i.size, i.bytes)) = some (some z, sz, bytes)) (hz : z.cells.size = sz) (hsz : 0 < sz)
    {n m : Nat} {v u : Value} {xs news : List Value} (hs : a.eval s = v) (hx : a.eval x = u) (hown : St W w (aRow e sz v n xs :: L)) (hu : Rd w u m sz news) (h1 : ∀ x ∈ news, x.oneCell' = true) (h63 : n + m ≤ maxLen) (hroom : (n + m) * bytes ≤ 140737488355328)
    (h : ∀ A c w', St W w' (aRow e sz (.slice A (n + m) c) (n + m) (xs ++ news) :: L) → wpList P ops Q rest (a.put o.dst (.slice A (n + m) c)) w') :
    wpList P ops Q (o :: rest) a w := by
  obtain ⟨own, hr, ho', hback⟩ := hown.focus
  refine wpList_append_Rd hgd s x t ho ht hie hz hsz hs hx hr.1 hu h1 h63 hroom (Nat.zero_le _) fun A c w' r1 x1 y1 => ?_
  refine h A c w' (hback w' (aRow e sz (.slice A (n + m) c) (n + m) (xs ++ news)) ((Ext.refl own w).grown x1 (fun g e' _ => hr.2 g e')) ⟨r1, fun g hg => ?_⟩)
  rcases y1 with e' | e'
  · exact .inl (hr.2 g (by rw [← e', hg]))
  · right; rw [e'] at hg; injection hg with hg; omega
end
section
variable {P : Program} {W w : World} {ops : Array Oper} {rest : List Oper} {o : Oper} {a : Act} {Q : Exit → Act → World → Prop} {L : List Asn}
theorem Rd.lit (w : World) (cs : Array Value) (t : TypeId) (n : Nat) (hn : cs.size = n) : Rd (w.alloc (.cells cs t)) (.slice (some ⟨w.heap.size, 0, none⟩) n n) n 1 cs.toList := by
  refine ⟨by simp [hn], _, n, rfl, fun e => (by cases e), Nat.le_refl _, fun ad had => ?_⟩
  cases had
  refine ⟨fun _ => by simp, fun j x hx => ?_⟩
  have ea : (⟨w.heap.size, 0, none⟩ : Addr).add j = ⟨w.heap.size, j, none⟩ := by unfold Addr.add; split <;> simp_all
  rw [ea, (Blk.new w t cs).cell]
  simpa using hx
end
section
variable {P : Program} {W w : World} {ops : Array Oper} {rest : List Oper} {o : Oper} {a : Act} {Q : Exit → Act → World → Prop} {L : List Asn}
theorem St.addRow (h : St W w L) {w' : World} (hb : B w w') {v : Value} {e : TypeId} {sz n : Nat} {xs : List Value} (hr : w'.ownsRow w.heap.size e sz v n xs) : St W w' (aRow e sz v n xs :: L) :=
  h.add hb (A := aRow e sz v n xs) (own := fun x => w.heap.size ≤ x) ⟨row_base hr (Nat.zero_le _), fun g hg => row_ge hr hg⟩ (fun x e => e)
end
theorem St.rowBs {W w : World} {X : List Asn} {v : Value} {x : List UInt8} {n : Nat} (h : St W w (aRow 5 1 v n (cellsB x) :: X)) (hn : n = x.length) (hl : x.length ≤ big) : Bs w v x := by
  subst hn
  obtain ⟨own, hr, _⟩ := h.get
  exact Bs.of_own hr.1 hl
theorem St.rowSlice {W w : World} {X : List Asn} {e : TypeId} {sz n : Nat} {v : Value} {xs : List Value} (h : St W w (aRow e sz v n xs :: X)) : ∃ A c, v = .slice A n c := by
  obtain ⟨own, hr, _⟩ := h.get
  exact own_slice hr.1
def aBy (v : Value) (bs : List UInt8) : Asn := aRow 5 1 v bs.length (cellsB bs)
theorem aBy.nil {W w : World} {L : List Asn} (h : St W w L) : St W w (aBy (.slice none 0 0) [] :: L) :=
  h.add (Below.refl _ _) (A := aBy (.slice none 0 0) []) (own := fun _ => False) ⟨ownNil _ _ _ _, fun g hg => by simp [Value.ownBlock] at hg⟩ (fun x e => e.elim)
section
variable {W w : World} {L : List Asn} {v : Value} {bs : List UInt8}
theorem St.fresh {P : Program} {f : FuncId} {args : Array Value} (h : St W w L) (hc : Calls P f args w (Fresh w bs)) : Calls P f args w fun e w' => ∃ v, e = .returned v ∧ St W w' (aBy v bs :: L) :=
  hc.mono fun e w' ⟨v, he, hr, hb⟩ => ⟨v, he, h.addRow hb hr⟩
end
section
variable {W w : World} {L : List Asn} {v : Value} {bs : List UInt8}
theorem St.byBs (h : St W w (aBy v bs :: L)) (hl : bs.length ≤ big) : Bs w v bs := h.rowBs rfl hl
end
section
variable {W w : World} {L : List Asn} {v : Value} {bs : List UInt8}
theorem St.bySlice (h : St W w (aBy v bs :: L)) : ∃ A c, v = .slice A bs.length c := h.rowSlice
end
section
variable {W w : World} {L : List Asn} {v : Value} {bs : List UInt8}
/-- bytes written out -/
theorem Bs.lit (w : World) (cs : Array Value) (bs : List UInt8) (n : Nat) (h : cs = (cellsB bs).toArray) (hn : n = bs.length) (hl : bs.length ≤ big) : Bs (w.alloc (.cells cs 5)) (.slice (some ⟨w.heap.size, 0, none⟩) n n) bs := by
  subst h hn
  refine ⟨⟨_, _, rfl, fun e => (by cases e), Nat.le_refl _, by unfold big at hl; unfold maxLen; omega, fun ad had => ?_⟩, hl⟩
  cases had
  refine ⟨fun _ => by simp, fun j u hu => ?_⟩
  have ea : (⟨w.heap.size, 0, none⟩ : Addr).add j = ⟨w.heap.size, j, none⟩ := by unfold Addr.add; split <;> simp_all
  rw [ea, (Blk.new w 5 _).cell]
  simpa using hu
end
section
variable {W w : World} {L : List Asn}
theorem Sep.mem {A : Asn} : ∀ {U : Nat → Prop} {L : List Asn}, Sep w U L → A ∈ L → ∃ own, A.at_ own w
  | _, [], _, h => by cases h
  | U, C :: L, ⟨o, h1, h2, h3⟩, h => by
    rcases List.mem_cons.1 h with e | e
    · subst e; exact ⟨o, h2⟩
    · exact Sep.mem h3 e
end
section
variable {W w : World} {L : List Asn}
theorem St.cellOf {g : Nat} {t : TypeId} {cs : Array Value} (h : St W w L) (hm : aBlk g t cs ∈ L) (i : Nat) : w.cell? ⟨g, i, none⟩ = cs[i]? := by
  obtain ⟨own, h1, h2⟩ := h.2.mem hm
  exact h2.cell i
end
section
variable {P : Program} {W w : World} {ops : Array Oper} {rest : List Oper} {o : Oper} {a : Act} {K : Act → World → Prop} {Q : Exit → Act → World → Prop} {E : Prop} {L : List Asn}
theorem step_append_St (hgd : o.guard = none) (s x : Operand) (t : TypeId) (ho : o.op = .call { callee := .builtin .append, args := #[s, x], argTypes := #[t, t] })
    {e : TypeId} {z : Value} {sz bytes : Nat} (ht : P.underlying t = some (.slice e)) (hie : (P.info? e).map (fun i => (i.zero, i.size, i.bytes)) = some (some z, sz, bytes)) (hz : z.cells.size = sz) (hsz : 0 < sz)
    {n m : Nat} {v u : Value} {xs news : List Value} (hs : a.eval s = v) (hx : a.eval x = u) (hown : St W w (aRow e sz v n xs :: L)) (hu : Rd w u m sz news) (h1 : ∀ x ∈ news, x.oneCell' = true) (h63 : n + m ≤ maxLen) (hroom : (n + m) * bytes ≤ 140737488355328)
    (h : ∀ A c w', St W w' (aRow e sz (.slice A (n + m) c) (n + m) (xs ++ news) :: L) → K (a.put o.dst (.slice A (n + m) c)) w') :
    if Region.wanted o (yielded ops a.tmps) = true then Oper.wp P o a w K Q else E := by
  obtain ⟨own, hr, ho', hback⟩ := hown.focus
  refine step_append_Rd hgd s x t ho ht hie hz hsz hs hx hr.1 hu h1 h63 hroom (Nat.zero_le _) fun A c w' r1 x1 y1 => ?_
  refine h A c w' (hback w' (aRow e sz (.slice A (n + m) c) (n + m) (xs ++ news)) ((Ext.refl own w).grown x1 (fun g e' _ => hr.2 g e')) ⟨r1, fun g hg => ?_⟩)
  rcases y1 with e' | e'
  · exact .inl (hr.2 g (by rw [← e', hg]))
  · right; rw [e'] at hg; injection hg with hg; omega
end
theorem St.frozenOf {W w : World} {L : List Asn} {g : Nat} {t : TypeId} {cs : Array Value} (h : St W w L) (hm : aBlk g t cs ∈ L) (i : Nat) : w.frozen? ⟨g, i, none⟩ = false := by
  obtain ⟨own, h1, h2⟩ := h.2.mem hm
  exact h2.frozen i
theorem addr_at (g o j : Nat) : (⟨g, o, none⟩ : Addr).add j = ⟨g, o + j, none⟩ := by unfold Addr.add; split <;> simp_all
theorem St.rowSome {W w : World} {e : TypeId} {A : Option Addr} {n c : Nat} {xs : List Value} {X : List Asn} (h : St W w (aRow e 1 (.slice A n c) n xs :: X)) (hn : 0 < n) : ∃ g, A = some ⟨g, 0, none⟩ := by
  obtain ⟨own, hr, _⟩ := h.get
  rcases hr.1.2 with ⟨h1, h2⟩ | ⟨g, cap, cur, h1, _⟩
  · injection h1 with h1 h3 h4; omega
  · injection h1 with h1 h3 h4; exact ⟨g, h1⟩
theorem St.rowAt {W w : World} {e : TypeId} {g n c : Nat} {xs : List Value} {X : List Asn} (h : St W w (aRow e 1 (.slice (some ⟨g, 0, none⟩) n c) n xs :: X)) {j : Nat} {x : Value} (hj : xs[j]? = some x) : w.cell? ⟨g, j, none⟩ = some x := by
  obtain ⟨own, hr, _⟩ := h.get
  obtain ⟨hl, A, cap, hv, _, _, hx⟩ := Rd.of_own hr.1
  injection hv with h1 _ _
  have := (hx _ h1.symm).2 j x hj
  rw [addr_at, Nat.zero_add] at this
  exact this
theorem St.drewN {W w : World} {L : List Asn} (h : St W w L) (n : Nat) : St W (w.drewN n) L := h.later (show B w (w.drewN n) from ⟨rfl, rfl, rfl, Nat.le_refl _, fun _ _ => rfl⟩)
end Go.Proofs.YtbbcepmhkocgbaaGreatDoor

/- Arguments opened, where their bulk is bounded: []byte. -/
namespace Go.Proofs.YtbbcepmhkocgbaaGreatDoor
open Go.ChangeShapes Go.WideShapes Go.ChangeAt Go.RowKit Go.Deep
set_option linter.unusedVariables false

theorem list_choose {α : Type} {P : Nat → α → Prop} (n : Nat) (h : ∀ i, i < n → ∃ x, P i x) : ∃ L : List α, L.length = n ∧ ∀ i x, L[i]? = some x → P i x := by
  induction n with
  | zero => exact ⟨[], rfl, fun i x hx => by simp at hx⟩
  | succ n ih =>
    obtain ⟨L, hl, hL⟩ := ih (fun i hi => h i (by omega))
    obtain ⟨x, hx⟩ := h n (by omega)
    refine ⟨L ++ [x], by simp [hl], fun i y hy => ?_⟩
    by_cases hi : i < L.length
    · rw [List.getElem?_append_left hi] at hy; exact hL i y hy
    · rw [List.getElem?_append_right (by omega)] at hy
      have : i - L.length = 0 := by
        rcases Nat.eq_zero_or_pos (i - L.length) with e | e
        · exact e
        · rw [List.getElem?_eq_none (by simp; omega)] at hy; cases hy
      rw [this] at hy
      simp at hy
      subst hy
      have : i = n := by omega
      rw [this]; exact hx

theorem addr_add (b off k : Nat) : (⟨b, off, none⟩ : Addr).add k = ⟨b, off + k, none⟩ := by unfold Addr.add; split <;> simp_all
theorem cell_spot {w : World} {a : Addr} {v : Value} (h : w.cell? a = some v) : a = ⟨a.block, a.off, none⟩ := by
  unfold World.cell? at h
  split at h
  · split at h
    · cases h
    · rename_i hs
      cases a with
      | mk b o s => cases s with
        | none => rfl
        | some x => simp at hs
  · cases h

theorem bulk_one {H : Type} (d : DataW H) : 1 ≤ Rows.uptoBulk d := by
  cases d with
  | lit l => cases l <;> simp [Rows.uptoBulk]
  | nil => simp [Rows.uptoBulk]
  | ptr d => simp [Rows.uptoBulk]
  | slice elems spare => simp [Rows.uptoBulk]
  | agg parts => simp [Rows.uptoBulk]
  | iface t d => simp [Rows.uptoBulk]
  | map entries => simp [Rows.uptoBulk]
  | held h => simp [Rows.uptoBulk]
theorem bulk_len {H : Type} (l : List (DataW H)) : l.length ≤ Rows.uptoBulkAll l := by
  induction l with
  | nil => simp [Rows.uptoBulkAll]
  | cons x r ih => have := bulk_one x; simp only [Rows.uptoBulkAll, List.length_cons]; omega
theorem bulk_sum {H α : Type} (f : α → Nat) : ∀ (L : List α) (E : List (DataW H)), L.length = E.length → (∀ (i : Nat) (x : α) (d : DataW H), L[i]? = some x → E[i]? = some d → f x ≤ Rows.uptoBulk d) → (L.map f).sum ≤ Rows.uptoBulkAll E
  | [], [], _, _ => by simp
  | [], _ :: _, h, _ => by simp at h
  | _ :: _, [], h, _ => by simp at h
  | x :: L, d :: E, h, hf => by
    have h0 := hf 0 x d rfl rfl
    have := bulk_sum f L E (by simpa using h) (fun i y c h1 h2 => hf (i + 1) y c (by simpa using h1) (by simpa using h2))
    simp only [List.map_cons, List.sum_cons, Rows.uptoBulkAll]
    omega
theorem bulk_slice {H : Type} (E S : List (DataW H)) : Rows.uptoBulkAll E + Rows.uptoBulkAll S + 1 = Rows.uptoBulk (.slice E S) := by simp only [Rows.uptoBulk]
section
variable {H : Type} {enc : TypeId × Value → H} {P : Program} {w : World} {base : Nat} {held : Bool} {spare : Nat → Bool}
theorem bs_of_trod {fuel : Nat} {t e : TypeId} {c : Value} {x : DataW H × List MemPlace} (ht : P.underlying t = some (.slice e)) (he : P.underlying e = some (.int .u8)) (hC : P.cellsOf e = 1)
    (h : DataW.trod enc P w base spare held fuel t [c] = some x) (hbig : ∀ len cap a, c = .slice a len cap → len ≤ big) : ∃ bs, Bs w c bs := by
  rcases open_slice ht h with ⟨h2, h3⟩ | ⟨a, len, cap, m, n, D, Pl, hcs, hb, hl, hm, hmm, hx, hi⟩
  · simp at h2
    subst h2
    exact ⟨[], Bs.nil w⟩
  · simp at hcs
    subst hcs
    have hlm : len ≤ m := by rw [hmm]; split <;> omega
    obtain ⟨bs, hbl, hbs⟩ := list_choose (P := fun i (b : UInt8) => w.cell? (a.add i) = some (.int .u8 (b.toNat : Int))) len (fun i hil => by
      obtain ⟨cs', hc, htr⟩ := hi i (by omega)
      rw [hC] at hc
      obtain ⟨_, hcl, hcat⟩ := World.cells?_some hc
      obtain ⟨k, rfl, _, hw⟩ := DataW.trod_int he htr
      have hk : 0 ≤ k ∧ k ≤ 255 := by simpa [Lit.wf, IntKind.min, IntKind.max, IntKind.signed, IntKind.bits] using hw
      refine ⟨UInt8.ofNat k.toNat, ?_⟩
      have := hcat 0 (by omega)
      have e1 : ((UInt8.ofNat k.toNat).toNat : Int) = k := by
        rw [UInt8.toNat_ofNat']; omega
      rw [e1]
      simpa [Addr.add] using this)
    refine ⟨bs, ⟨⟨some a, cap, by rw [hbl], fun e => (by cases e), by omega, hm, fun ad had => ?_⟩, by rw [hbl]; exact hbig len cap (some a) rfl⟩⟩
    cases had
    have hget : ∀ j u, (cellsB bs)[j]? = some u → w.cell? (a.add j) = some u := fun j u hu => by
      have hj : j < bs.length := by
        rcases Nat.lt_or_ge j bs.length with h | h
        · exact h
        · rw [List.getElem?_eq_none (by rw [cellsB_len]; exact h)] at hu; cases hu
      rw [cellsB_get bs j hj] at hu
      rw [← hu]
      exact hbs j _ (List.getElem?_eq_getElem hj)
    refine ⟨fun hne => ?_, hget⟩
    have h0 : 0 < bs.length := List.length_pos_iff.2 hne
    have := World.block_lt_of_cell? w _ (hget 0 _ (cellsB_get bs 0 h0))
    rwa [block_of_add] at this
theorem bs_upto {fuel : Nat} {t e : TypeId} {c : Value} {x : DataW H × List MemPlace} (ht : P.underlying t = some (.slice e)) (he : P.underlying e = some (.int .u8)) (hC : P.cellsOf e = 1)
    (h : DataW.trod enc P w base spare held fuel t [c] = some x) (hB : Rows.uptoBulk x.1 ≤ 1048576) : ∃ bs, Bs w c bs ∧ bs.length + 1 ≤ Rows.uptoBulk x.1 := by
  have hlen : ∀ len cap a, c = .slice a len cap → len + 1 ≤ Rows.uptoBulk x.1 := by
    intro len cap a hc
    subst hc
    rcases open_slice ht h with ⟨h2, h3⟩ | ⟨a, len, cap, m, n, D, Pl, hcs, hb, hl, hm, hmm, rfl, hi⟩
    · simp at h2; have := bulk_one x.1; omega
    · simp at hcs
      obtain ⟨_, rfl, _⟩ := hcs
      have h1 := bulk_len ((List.range len).map D)
      rw [List.length_map, List.length_range] at h1
      simp only [Rows.uptoBulk]
      omega
  obtain ⟨bs, hb⟩ := bs_of_trod ht he hC h (fun len cap a hc => by have := hlen len cap a hc; unfold big; omega)
  obtain ⟨⟨A, cap0, hv, _⟩, _⟩ := id hb
  exact ⟨bs, hb, hlen _ _ _ hv⟩
theorem open_bsU {r : Reach} {b0 : Nat} {t e : TypeId} {v : Value} {d : DataW H} {p : List MemPlace} (ht : P.underlying t = some (.slice e)) (he : P.underlying e = some (.int .u8)) (hC : P.cellsOf e = 1)
    (hv : Value.okWide P w r b0 t v) (h : DataW.Trod enc P w base spare held t v d p) (hB : Rows.uptoBulk d ≤ 1048576) : ∃ bs, Bs w v bs ∧ bs.length + 1 ≤ Rows.uptoBulk d := by
  obtain ⟨A, len, cap, rfl⟩ := okWide_slice ht hv
  obtain ⟨fuel, hf⟩ := h
  simp only [Value.cells] at hf
  exact bs_upto ht he hC hf hB
theorem bulk_mem {l : List (DataW H)} {y : DataW H} (hy : y ∈ l) : Rows.uptoBulk y ≤ Rows.uptoBulkAll l := by
  induction l with
  | nil => cases hy
  | cons z r ih =>
    simp only [Rows.uptoBulkAll]
    rcases List.mem_cons.1 hy with e | e
    · subst e; omega
    · have := ih e; omega
theorem uptoBound {l : List (DataW H)} (hk : Rows.uptoSmall H l = true) : Rows.uptoBulkAll l ≤ 1048576 := of_decide_eq_true hk
end
end Go.Proofs.YtbbcepmhkocgbaaGreatDoor

/- How the values of a type read: 'Ty', a reading of cells as a datum; structs, strings, byte strings, lists of them. No program here. -/
namespace Go.Proofs.YtbbcepmhkocgbaaGreatDoor
open Go.ChangeShapes Go.WideShapes Go.ChangeAt Go.RowKit Go.Deep
set_option linter.unusedVariables false

/-- a reading of cells: how many cells, what they read as; all that is read lies in blocks of 'inn'; how much a datum holds -/
structure Ty (α : Type) where
  n : Nat
  rd : (Nat → Prop) → World → List Value → α → Prop
  sz : α → Nat
  len : ∀ {inn : Nat → Prop} {w : World} {cs : List Value} {a : α}, rd inn w cs a → cs.length = n
  ext : ∀ {inn own : Nat → Prop} {w w' : World} {cs : List Value} {a : α}, rd inn w cs a → Ext own w w' → (∀ g, inn g → ¬ own g) → rd inn w' cs a
  mono : ∀ {inn inn' : Nat → Prop} {w : World} {cs : List Value} {a : α}, rd inn w cs a → (∀ g, inn g → inn' g) → rd inn' w cs a
  bound : ∀ {inn : Nat → Prop} {w : World} {cs : List Value} {a : α}, rd inn w cs a → rd (fun g => inn g ∧ g < w.heap.size) w cs a
/-- what was there reads as it did -/
theorem Ty.later {α : Type} (T : Ty α) {inn : Nat → Prop} {w w' : World} {cs : List Value} {a : α} (h : T.rd inn w cs a) (hb : B w w') : T.rd inn w' cs a :=
  T.ext h (Ext.of_B (own := fun _ => False) hb) (fun _ _ => id)
def tI : Ty Int where
  n := 1
  rd _ _ cs a := cs = [.int .i64 a] ∧ -9223372036854775808 ≤ a ∧ a ≤ 9223372036854775807
  sz _ := 1
  len h := by rw [h.1]; rfl
  ext h _ _ := h
  mono h _ := h
  bound h := h
def tW : Ty Int where
  n := 1
  rd _ _ cs a := cs = [.int .u16 a] ∧ 0 ≤ a ∧ a ≤ 65535
  sz _ := 1
  len h := by rw [h.1]; rfl
  ext h _ _ := h
  mono h _ := h
  bound h := h
def tB : Ty Bool where
  n := 1
  rd _ _ cs a := cs = [.bool a]
  sz _ := 1
  len h := by rw [h]; rfl
  ext h _ _ := h
  mono h _ := h
  bound h := h
def tS : Ty (List UInt8) where
  n := 1
  rd _ _ cs a := cs = [.string (bstr a)] ∧ a.length ≤ 4194304
  sz a := a.length + 1
  len h := by rw [h.1]; rfl
  ext h _ _ := h
  mono h _ := h
  bound h := h
def tY : Ty (List UInt8) where
  n := 1
  rd inn w cs a := ∃ v, cs = [v] ∧ Bs w v a ∧ (∀ g, v.ownBlock = some g → a ≠ [] → inn g) ∧ a.length ≤ 4194304
  sz a := a.length + 1
  len h := by obtain ⟨v, rfl, _⟩ := h; rfl
  ext h hx hd := by obtain ⟨v, rfl, h1, h2, h3⟩ := h; exact ⟨v, rfl, h1.ext hx (fun g hg hne => hd g (h2 g hg hne)), h2, h3⟩
  mono h hs := by obtain ⟨v, rfl, h1, h2, h3⟩ := h; exact ⟨v, rfl, h1, fun g hg hne => hs g (h2 g hg hne), h3⟩
  bound h := by obtain ⟨v, rfl, h1, h2, h3⟩ := h; exact ⟨v, rfl, h1, fun g hg hne => ⟨h2 g hg hne, h1.lt hne hg⟩, h3⟩
/-- a pair, one behind the other -/
def tP {α β : Type} (T : Ty α) (U : Ty β) : Ty (α × β) where
  n := T.n + U.n
  rd inn w cs p := ∃ c d, cs = c ++ d ∧ T.rd inn w c p.1 ∧ U.rd inn w d p.2
  sz p := T.sz p.1 + U.sz p.2
  len h := by obtain ⟨c, d, rfl, h1, h2⟩ := h; rw [List.length_append, T.len h1, U.len h2]
  ext h hx hd := by obtain ⟨c, d, rfl, h1, h2⟩ := h; exact ⟨c, d, rfl, T.ext h1 hx hd, U.ext h2 hx hd⟩
  mono h hs := by obtain ⟨c, d, rfl, h1, h2⟩ := h; exact ⟨c, d, rfl, T.mono h1 hs, U.mono h2 hs⟩
  bound h := by obtain ⟨c, d, rfl, h1, h2⟩ := h; exact ⟨c, d, rfl, T.bound h1, U.bound h2⟩
/-- the same cells, another datum; a struct counts one more -/
def tM {α β : Type} (T : Ty α) (f : β → α) : Ty β where
  n := T.n
  rd inn w cs b := T.rd inn w cs (f b)
  sz b := T.sz (f b) + 1
  len h := T.len h
  ext h hx hd := T.ext h hx hd
  mono h hs := T.mono h hs
  bound h := T.bound h
/-- what a list's block says: each element by its cells -/
def Els2 {α : Type} (T : Ty α) (inn : Nat → Prop) (w : World) (b off : Nat) (xs : List α) : Prop :=
  ∀ i x, xs[i]? = some x → ∃ cs, T.rd inn w cs x ∧ ∀ j v, cs[j]? = some v → w.cell? ⟨b, off + i * T.n + j, none⟩ = some v
def tL {α : Type} (T : Ty α) : Ty (List α) where
  n := 1
  rd inn w cs xs := ∃ A cap, cs = [.slice A xs.length cap] ∧ xs.length ≤ cap ∧ cap ≤ maxLen ∧ (A = none → xs.length = 0 ∧ cap = 0) ∧ xs.length ≤ 4194304 ∧
    (0 < xs.length → ∃ b off, A = some ⟨b, off, none⟩ ∧ b < w.heap.size ∧ inn b ∧ Els2 T inn w b off xs)
  sz xs := (xs.map T.sz).sum + 1
  len h := by obtain ⟨A, cap, rfl, _⟩ := h; rfl
  ext h hx hd := by
    obtain ⟨A, cap, rfl, h1, h2, h3, h4, h5⟩ := h
    refine ⟨A, cap, rfl, h1, h2, h3, h4, fun h0 => ?_⟩
    obtain ⟨b, off, rfl, hb, hi, hel⟩ := h5 h0
    refine ⟨b, off, rfl, Nat.lt_of_lt_of_le hb hx.size, hi, fun i x hix => ?_⟩
    obtain ⟨cs, k1, k2⟩ := hel i x hix
    exact ⟨cs, T.ext k1 hx hd, fun j v hj => hx.cell (hd b hi) (k2 j v hj)⟩
  mono h hs := by
    obtain ⟨A, cap, rfl, h1, h2, h3, h4, h5⟩ := h
    refine ⟨A, cap, rfl, h1, h2, h3, h4, fun h0 => ?_⟩
    obtain ⟨b, off, rfl, hb, hi, hel⟩ := h5 h0
    refine ⟨b, off, rfl, hb, hs b hi, fun i x hix => ?_⟩
    obtain ⟨cs, k1, k2⟩ := hel i x hix
    exact ⟨cs, T.mono k1 hs, k2⟩
  bound h := by
    obtain ⟨A, cap, rfl, h1, h2, h3, h4, h5⟩ := h
    refine ⟨A, cap, rfl, h1, h2, h3, h4, fun h0 => ?_⟩
    obtain ⟨b, off, rfl, hb, hi, hel⟩ := h5 h0
    refine ⟨b, off, rfl, hb, ⟨hi, hb⟩, fun i x hix => ?_⟩
    obtain ⟨cs, k1, k2⟩ := hel i x hix
    exact ⟨cs, T.bound k1, k2⟩
/-- an object that reads as a datum -/
def aRd2 {α : Type} (T : Ty α) (cs : List Value) (a : α) : Asn where
  at_ own w := T.rd own w cs a
  ext h hx hd := T.ext h hx hd
  bound h := T.bound h
/-- an element of a list -/
theorem tL.at {α : Type} {T : Ty α} {inn : Nat → Prop} {w : World} {A : Option Addr} {l cap : Nat} {xs : List α} (h : (tL T).rd inn w [.slice A l cap] xs) {i : Nat} {x : α} (hi : xs[i]? = some x) :
    l = xs.length ∧ ∃ b off cs, A = some ⟨b, off, none⟩ ∧ T.rd inn w cs x ∧ ∀ j v, cs[j]? = some v → w.cell? ⟨b, off + i * T.n + j, none⟩ = some v := by
  obtain ⟨A', cap', he, h1, h2, h3, h4, h5⟩ := h
  injection he with he _
  injection he with e1 e2 e3
  subst e1 e2 e3
  have hl : i < xs.length := by
    rcases Nat.lt_or_ge i xs.length with h' | h'
    · exact h'
    · rw [List.getElem?_eq_none h'] at hi; cases hi
  obtain ⟨b, off, rfl, hb, hin, hel⟩ := h5 (by omega)
  obtain ⟨cs, k1, k2⟩ := hel i x hi
  exact ⟨rfl, b, off, cs, rfl, k1, k2⟩
theorem tL.slice {α : Type} {T : Ty α} {inn : Nat → Prop} {w : World} {cs : List Value} {xs : List α} (h : (tL T).rd inn w cs xs) : ∃ A cap, cs = [.slice A xs.length cap] ∧ xs.length ≤ 4194304 := by
  obtain ⟨A, cap, rfl, _, _, _, h4, _⟩ := h
  exact ⟨A, cap, rfl, h4⟩
/-! opening what came in -/
/-- a type's readings, of bulk at most 1048576, are data of 'T' -/
def Opens {α : Type} (P : Program) (t : TypeId) (T : Ty α) : Prop :=
  P.cellsOf t = T.n ∧ ∀ {H : Type} {enc : TypeId × Value → H} {w : World} {base : Nat} {held : Bool} {spare : Nat → Bool} {fuel : Nat} {cs : List Value} {x : DataW H × List MemPlace},
    DataW.trod enc P w base spare held fuel t cs = some x → Rows.uptoBulk x.1 ≤ 1048576 → ∃ a, T.rd (fun g => g < w.heap.size) w cs a ∧ T.sz a ≤ Rows.uptoBulk x.1
section
variable {P : Program} {t e : TypeId}
theorem opensI (ht : P.underlying t = some (.int .i64)) (hc : P.cellsOf t = 1) : Opens P t tI := by
  refine ⟨hc, fun h hB => ?_⟩
  obtain ⟨n, rfl, hx, hw⟩ := DataW.trod_int ht h
  rw [hx]
  exact ⟨n, ⟨rfl, by simpa [Lit.wf, IntKind.min, IntKind.max, IntKind.signed, IntKind.bits] using hw⟩, by simp [tI, Rows.uptoBulk]⟩
theorem opensW (ht : P.underlying t = some (.int .u16)) (hc : P.cellsOf t = 1) : Opens P t tW := by
  refine ⟨hc, fun h hB => ?_⟩
  obtain ⟨n, rfl, hx, hw⟩ := DataW.trod_int ht h
  rw [hx]
  exact ⟨n, ⟨rfl, by simpa [Lit.wf, IntKind.min, IntKind.max, IntKind.signed, IntKind.bits] using hw⟩, by simp [tW, Rows.uptoBulk]⟩
theorem opensB (ht : P.underlying t = some .bool) (hc : P.cellsOf t = 1) : Opens P t tB := by
  refine ⟨hc, fun h hB => ?_⟩
  obtain ⟨b, rfl, hx⟩ := DataW.trod_bool ht h
  rw [hx]
  exact ⟨b, rfl, by simp [tB, Rows.uptoBulk]⟩
theorem opensS (ht : P.underlying t = some .string) (hc : P.cellsOf t = 1) : Opens P t tS := by
  refine ⟨hc, fun h hB => ?_⟩
  obtain ⟨s, rfl, hx, _⟩ := DataW.trod_string ht h
  rw [hx] at hB ⊢
  simp only [Rows.uptoBulk] at hB ⊢
  refine ⟨s.data.toList, ⟨by cases s; rfl, by omega⟩, by simp [tS]⟩
theorem opensY (ht : P.underlying t = some (.slice e)) (he : P.underlying e = some (.int .u8)) (hC : P.cellsOf e = 1) (hc : P.cellsOf t = 1) : Opens P t tY := by
  refine ⟨hc, fun {H enc w base held spare fuel cs x} h hB => ?_⟩
  have hcs : ∃ c, cs = [c] := by
    rcases open_slice ht h with ⟨rfl, _⟩ | ⟨a, len, cap, m, n, D, Pl, rfl, _⟩
    · exact ⟨_, rfl⟩
    · exact ⟨_, rfl⟩
  obtain ⟨c, rfl⟩ := hcs
  obtain ⟨bs, hb, hl⟩ := bs_upto ht he hC h hB
  exact ⟨bs, ⟨c, rfl, hb, fun g hg hne => hb.lt hne hg, by omega⟩, by simp only [tY]; omega⟩
theorem opensL {α : Type} {T : Ty α} (ht : P.underlying t = some (.slice e)) (hT : Opens P e T) (hpos : 0 < T.n) (hc : P.cellsOf t = 1) : Opens P t (tL T) := by
  refine ⟨hc, fun {H enc w base held spare fuel cs x} h hB => ?_⟩
  rcases open_slice ht h with ⟨rfl, hx⟩ | ⟨a, len, cap, m, n, D, Pl, rfl, hb, hl, hm, hmm, hx, hi⟩
  · rw [hx]
    exact ⟨[], ⟨none, 0, rfl, Nat.le_refl _, by unfold maxLen; omega, fun _ => ⟨rfl, rfl⟩, by simp, fun h0 => by simp at h0⟩, by simp [tL, Rows.uptoBulk]⟩
  · have hlm : len ≤ m := by rw [hmm]; split <;> omega
    rw [hx] at hB ⊢
    simp only [Rows.uptoBulk] at hB ⊢
    have hat : ∀ i, i < len → Rows.uptoBulk (D i) ≤ Rows.uptoBulkAll ((List.range len).map D) := fun i hil => bulk_mem (List.mem_map.2 ⟨i, by simpa using hil, rfl⟩)
    obtain ⟨L, hLl, hL⟩ := list_choose (P := fun i (x : α) => (∃ cs', T.rd (fun g => g < w.heap.size) w cs' x ∧ ∀ j v, cs'[j]? = some v → w.cell? ((a.add (i * T.n)).add j) = some v) ∧ T.sz x ≤ Rows.uptoBulk (D i)) len (fun i hil => by
      obtain ⟨cs', hc', htr⟩ := hi i (by omega)
      obtain ⟨y, hy, hys⟩ := hT.2 htr (by have := hat i hil; show Rows.uptoBulk (D i) ≤ _; omega)
      obtain ⟨_, hcl, hcat⟩ := World.cells?_some hc'
      refine ⟨y, ⟨cs', hy, fun j v hj => ?_⟩, hys⟩
      have hjl : j < cs'.length := by
        rcases Nat.lt_or_ge j cs'.length with h' | h'
        · exact h'
        · rw [List.getElem?_eq_none h'] at hj; cases hj
      rw [← hj, ← hT.1]
      exact hcat j (by omega))
    have hlen1 := bulk_len ((List.range len).map D)
    rw [List.length_map, List.length_range] at hlen1
    refine ⟨L, ⟨some a, cap, by rw [hLl], by omega, hm, fun h' => (by cases h'), by omega, fun h0 => ?_⟩, ?_⟩
    · obtain ⟨⟨cs0, y0, z0⟩, _⟩ := hL 0 _ (List.getElem?_eq_getElem h0)
      have hc0 := T.len y0
      have z1 := z0 0 _ (List.getElem?_eq_getElem (by omega))
      have za : a = ⟨a.block, a.off, none⟩ := by
        have := cell_spot z1
        simp [Addr.add] at this
        exact this
      have hblt := World.block_lt_of_cell? w _ z1
      simp [Addr.add] at hblt
      refine ⟨a.block, a.off, by rw [← za], hblt, hblt, fun i x hix => ?_⟩
      obtain ⟨⟨cs', y, z⟩, _⟩ := hL i x hix
      refine ⟨cs', y, fun j v hj => ?_⟩
      have := z j v hj
      rw [za, addr_add, addr_add] at this
      exact this
    · have := bulk_sum T.sz L ((List.range len).map D) (by simp [hLl]) (fun i x d hx' hd => by
        have hil : i < len := by
          rcases Nat.lt_or_ge i L.length with h' | h'
          · omega
          · rw [List.getElem?_eq_none h'] at hx'; cases hx'
        rw [List.getElem?_map, List.getElem?_range hil] at hd
        cases hd
        exact (hL i x hx').2)
      simp only [tL]
      omega
/-- fields that lie one behind the other from a cell on -/
def OpensF {α : Type} (P : Program) (fs : List Field) (o : Nat) (T : Ty α) : Prop :=
  ∀ {H : Type} {enc : TypeId × Value → H} {w : World} {base : Nat} {held : Bool} {spare : Nat → Bool} {fuel : Nat} {cs : List Value} {xs : List (DataW H × List MemPlace)},
    xs.length = fs.length → (∀ (i : Nat) (f : Field), fs[i]? = some f → DataW.trod enc P w base spare held fuel f.type ((cs.drop f.offset).take (P.cellsOf f.type)) = xs[i]?) → Rows.uptoBulkAll (xs.map (·.1)) ≤ 1048576 →
    ∃ a, T.rd (fun g => g < w.heap.size) w ((cs.drop o).take T.n) a ∧ T.sz a ≤ Rows.uptoBulkAll (xs.map (·.1))
theorem opensF1 {α : Type} {f : Field} {T : Ty α} {o : Nat} (ho : f.offset = o) (hT : Opens P f.type T) : OpensF P [f] o T := by
  intro H enc w base held spare fuel cs xs hl hx hB
  obtain ⟨y, rfl⟩ : ∃ y, xs = [y] := by
    cases xs with
    | nil => simp at hl
    | cons y r => cases r with
      | nil => exact ⟨y, rfl⟩
      | cons _ _ => simp at hl
  have h0 := hx 0 f rfl
  simp only [List.map_cons, List.map_nil, Rows.uptoBulkAll, Nat.add_zero] at hB ⊢
  rw [hT.1, ho] at h0
  exact hT.2 h0 hB
theorem opensFc {α β : Type} {f : Field} {fs : List Field} {T : Ty α} {U : Ty β} {o o' : Nat} (ho : f.offset = o) (ho' : o + T.n = o') (hT : Opens P f.type T) (hU : OpensF P fs o' U) : OpensF P (f :: fs) o (tP T U) := by
  intro H enc w base held spare fuel cs xs hl hx hB
  cases xs with
  | nil => simp at hl
  | cons y r =>
    simp only [List.map_cons, Rows.uptoBulkAll] at hB ⊢
    have h0 := hx 0 f rfl
    rw [hT.1, ho] at h0
    obtain ⟨a, ha, hsa⟩ := hT.2 h0 (by show Rows.uptoBulk y.1 ≤ _; omega)
    obtain ⟨b, hb, hsb⟩ := hU (xs := r) (by simpa using hl) (fun i g hg => by have := hx (i + 1) g (by simpa using hg); simpa using this) (by omega)
    refine ⟨(a, b), ⟨_, _, ?_, ha, hb⟩, by simp only [tP]; omega⟩
    simp only [tP]
    rw [← ho', ← List.drop_drop, ← List.take_add]
theorem opensT {α β : Type} {fs : Array Field} {T : Ty α} {f : β → α} (g : α → β) (hfg : ∀ a, f (g a) = a) (ht : P.underlying t = some (.struct fs)) (hT : OpensF P fs.toList 0 T) (hc : P.cellsOf t = T.n) : Opens P t (tM T f) := by
  refine ⟨hc, fun {H enc w base held spare fuel cs x} h hB => ?_⟩
  obtain ⟨xs, n, _, hx, hcl, hxl, hf⟩ := DataW.trod_struct ht h
  rw [hx] at hB ⊢
  simp only [Rows.uptoBulk] at hB ⊢
  obtain ⟨a, ha, hs⟩ := hT (xs := xs) (by simpa using hxl) (fun i fl hfl => hf i fl (by simpa using hfl)) (by omega)
  refine ⟨g a, ?_, by simp only [tM]; rw [hfg]; omega⟩
  show T.rd _ w cs (f (g a))
  rw [hfg]
  rw [List.drop_zero, List.take_of_length_le (by omega)] at ha
  exact ha
/-- an argument of such a type -/
theorem Opens.arg {α : Type} {T : Ty α} (hT : Opens P t T) {H : Type} {enc : TypeId × Value → H} {w : World} {base : Nat} {held : Bool} {spare : Nat → Bool} {v : Value} {d : DataW H} {p : List MemPlace}
    (h : DataW.Trod enc P w base spare held t v d p) (hB : Rows.uptoBulk d ≤ 1048576) : ∃ a, T.rd (fun g => g < w.heap.size) w v.cells.toList a ∧ T.sz a ≤ Rows.uptoBulk d := by
  obtain ⟨fuel, hf⟩ := h
  exact hT.2 hf hB
end
end Go.Proofs.YtbbcepmhkocgbaaGreatDoor

/- The types of package api as data, how they read, and their cells (printed by gen_jb.py). -/
namespace Go.Proofs.YtbbcepmhkocgbaaGreatDoor
open Go.ChangeShapes Go.WideShapes Go.ChangeAt Go.RowKit Go.Deep
set_option linter.unusedVariables false

theorem len1 {cs : List Value} (h : cs.length = 1) : ∃ v, cs = [v] := by
  cases cs with
  | nil => simp at h
  | cons v r => cases r with
    | nil => exact ⟨v, rfl⟩
    | cons _ _ => simp at h
structure SignD where
  key : Int
  digest : Int
def tSign : Ty SignD := tM (tP tI tI) (fun s : SignD => (s.key, s.digest))
theorem open_Sign : Opens Tryz.prog 54 tSign := by
  refine opensT (fun p => ⟨p.1, p.2⟩) (fun _ => rfl) Tryz.underlying54 ?_ (by kernel_rfl)
  simp only
  refine opensFc (o' := 1) rfl rfl ?_ ?_
  · exact opensI Tryz.underlying3 (by kernel_rfl)
  refine opensF1 rfl ?_
  exact opensI Tryz.underlying38 (by kernel_rfl)
theorem tSign.parts {inn : Nat → Prop} {w : World} {cs : List Value} {s : SignD} (h : tSign.rd inn w cs s) : cs = [.int .i64 s.key, .int .i64 s.digest] ∧ (-9223372036854775808 ≤ s.key ∧ s.key ≤ 9223372036854775807) ∧ (-9223372036854775808 ≤ s.digest ∧ s.digest ≤ 9223372036854775807) := by
  obtain ⟨c0, c1, rfl, h0, h1⟩ := h
  obtain ⟨rfl, b0⟩ := h0
  obtain ⟨rfl, b1⟩ := h1
  exact ⟨rfl, b0, b1⟩
theorem tSign.mk {inn : Nat → Prop} {w : World} {s : SignD} (k0 : (-9223372036854775808 ≤ s.key ∧ s.key ≤ 9223372036854775807)) (k1 : (-9223372036854775808 ≤ s.digest ∧ s.digest ≤ 9223372036854775807)) : tSign.rd inn w [.int .i64 s.key, .int .i64 s.digest] s := by
  exact ⟨[.int .i64 s.key], [.int .i64 s.digest], rfl, ⟨rfl, k0⟩, ⟨rfl, k1⟩⟩
structure OpD where
  kind : Int
  topic : List UInt8
  group : List UInt8
  offset : Int
  records : List (List UInt8)
def tOp : Ty OpD := tM (tP tI (tP tS (tP tS (tP tI (tL tY))))) (fun s : OpD => (s.kind, s.topic, s.group, s.offset, s.records))
theorem open_Op : Opens Tryz.prog 36 tOp := by
  refine opensT (fun p => ⟨p.1, p.2.1, p.2.2.1, p.2.2.2.1, p.2.2.2.2⟩) (fun _ => rfl) Tryz.underlying36 ?_ (by kernel_rfl)
  simp only
  refine opensFc (o' := 1) rfl rfl ?_ ?_
  · exact opensI Tryz.underlying3 (by kernel_rfl)
  refine opensFc (o' := 2) rfl rfl ?_ ?_
  · exact opensS Tryz.underlying9 (by kernel_rfl)
  refine opensFc (o' := 3) rfl rfl ?_ ?_
  · exact opensS Tryz.underlying9 (by kernel_rfl)
  refine opensFc (o' := 4) rfl rfl ?_ ?_
  · exact opensI Tryz.underlying2 (by kernel_rfl)
  refine opensF1 rfl ?_
  refine opensL Tryz.underlying34 ?_ (by decide) (by kernel_rfl)
  exact opensY Tryz.underlying48 Tryz.underlying5 (by kernel_rfl) (by kernel_rfl)
theorem tOp.parts {inn : Nat → Prop} {w : World} {cs : List Value} {s : OpD} (h : tOp.rd inn w cs s) : ∃ v1, cs = [.int .i64 s.kind, .string (bstr s.topic), .string (bstr s.group), .int .i64 s.offset, v1] ∧ (-9223372036854775808 ≤ s.kind ∧ s.kind ≤ 9223372036854775807) ∧ s.topic.length ≤ 4194304 ∧ s.group.length ≤ 4194304 ∧ (-9223372036854775808 ≤ s.offset ∧ s.offset ≤ 9223372036854775807) ∧ (tL tY).rd inn w [v1] s.records := by
  obtain ⟨c0, e1, rfl, h0, c1, e2, rfl, h1, c2, e3, rfl, h2, c3, c4, rfl, h3, h4⟩ := h
  obtain ⟨rfl, b0⟩ := h0
  obtain ⟨rfl, b1⟩ := h1
  obtain ⟨rfl, b2⟩ := h2
  obtain ⟨rfl, b3⟩ := h3
  obtain ⟨u4, rfl⟩ := len1 ((tL tY).len h4)
  exact ⟨u4, rfl, b0, b1, b2, b3, h4⟩
theorem tOp.mk {inn : Nat → Prop} {w : World} {s : OpD} {v1 : Value} (k0 : (-9223372036854775808 ≤ s.kind ∧ s.kind ≤ 9223372036854775807)) (k1 : s.topic.length ≤ 4194304) (k2 : s.group.length ≤ 4194304) (k3 : (-9223372036854775808 ≤ s.offset ∧ s.offset ≤ 9223372036854775807)) (k4 : (tL tY).rd inn w [v1] s.records) : tOp.rd inn w [.int .i64 s.kind, .string (bstr s.topic), .string (bstr s.group), .int .i64 s.offset, v1] s := by
  exact ⟨[.int .i64 s.kind], [.string (bstr s.topic), .string (bstr s.group), .int .i64 s.offset, v1], rfl, ⟨rfl, k0⟩, [.string (bstr s.topic)], [.string (bstr s.group), .int .i64 s.offset, v1], rfl, ⟨rfl, k1⟩, [.string (bstr s.group)], [.int .i64 s.offset, v1], rfl, ⟨rfl, k2⟩, [.int .i64 s.offset], [v1], rfl, ⟨rfl, k3⟩, k4⟩
structure ResultD where
  err : Int
  offset : Int
def tResult : Ty ResultD := tM (tP tI tI) (fun s : ResultD => (s.err, s.offset))
theorem open_Result : Opens Tryz.prog 40 tResult := by
  refine opensT (fun p => ⟨p.1, p.2⟩) (fun _ => rfl) Tryz.underlying40 ?_ (by kernel_rfl)
  simp only
  refine opensFc (o' := 1) rfl rfl ?_ ?_
  · exact opensI Tryz.underlying30 (by kernel_rfl)
  refine opensF1 rfl ?_
  exact opensI Tryz.underlying2 (by kernel_rfl)
theorem tResult.parts {inn : Nat → Prop} {w : World} {cs : List Value} {s : ResultD} (h : tResult.rd inn w cs s) : cs = [.int .i64 s.err, .int .i64 s.offset] ∧ (-9223372036854775808 ≤ s.err ∧ s.err ≤ 9223372036854775807) ∧ (-9223372036854775808 ≤ s.offset ∧ s.offset ≤ 9223372036854775807) := by
  obtain ⟨c0, c1, rfl, h0, h1⟩ := h
  obtain ⟨rfl, b0⟩ := h0
  obtain ⟨rfl, b1⟩ := h1
  exact ⟨rfl, b0, b1⟩
theorem tResult.mk {inn : Nat → Prop} {w : World} {s : ResultD} (k0 : (-9223372036854775808 ≤ s.err ∧ s.err ≤ 9223372036854775807)) (k1 : (-9223372036854775808 ≤ s.offset ∧ s.offset ≤ 9223372036854775807)) : tResult.rd inn w [.int .i64 s.err, .int .i64 s.offset] s := by
  exact ⟨[.int .i64 s.err], [.int .i64 s.offset], rfl, ⟨rfl, k0⟩, ⟨rfl, k1⟩⟩
structure RequestD where
  client : Int
  time : Int
  op : OpD
def tRequest : Ty RequestD := tM (tP tI (tP tI tOp)) (fun s : RequestD => (s.client, s.time, s.op))
theorem open_Request : Opens Tryz.prog 103 tRequest := by
  refine opensT (fun p => ⟨p.1, p.2.1, p.2.2⟩) (fun _ => rfl) Tryz.underlying103 ?_ (by kernel_rfl)
  simp only
  refine opensFc (o' := 1) rfl rfl ?_ ?_
  · exact opensI Tryz.underlying3 (by kernel_rfl)
  refine opensFc (o' := 2) rfl rfl ?_ ?_
  · exact opensI Tryz.underlying2 (by kernel_rfl)
  refine opensF1 rfl ?_
  exact open_Op
theorem tRequest.parts {inn : Nat → Prop} {w : World} {cs : List Value} {s : RequestD} (h : tRequest.rd inn w cs s) : ∃ v1, cs = [.int .i64 s.client, .int .i64 s.time, .int .i64 s.op.kind, .string (bstr s.op.topic), .string (bstr s.op.group), .int .i64 s.op.offset, v1] ∧ (-9223372036854775808 ≤ s.client ∧ s.client ≤ 9223372036854775807) ∧ (-9223372036854775808 ≤ s.time ∧ s.time ≤ 9223372036854775807) ∧ (-9223372036854775808 ≤ s.op.kind ∧ s.op.kind ≤ 9223372036854775807) ∧ s.op.topic.length ≤ 4194304 ∧ s.op.group.length ≤ 4194304 ∧ (-9223372036854775808 ≤ s.op.offset ∧ s.op.offset ≤ 9223372036854775807) ∧ (tL tY).rd inn w [v1] s.op.records := by
  obtain ⟨c0, e1, rfl, h0, c1, c2, rfl, h1, h2⟩ := h
  obtain ⟨rfl, b0⟩ := h0
  obtain ⟨rfl, b1⟩ := h1
  obtain ⟨u2_0, rfl, f2_0, f2_1, f2_2, f2_3, f2_4⟩ := tOp.parts h2
  exact ⟨u2_0, rfl, b0, b1, f2_0, f2_1, f2_2, f2_3, f2_4⟩
theorem tRequest.mk {inn : Nat → Prop} {w : World} {s : RequestD} {v1 : Value} (k0 : (-9223372036854775808 ≤ s.client ∧ s.client ≤ 9223372036854775807)) (k1 : (-9223372036854775808 ≤ s.time ∧ s.time ≤ 9223372036854775807)) (k2 : (-9223372036854775808 ≤ s.op.kind ∧ s.op.kind ≤ 9223372036854775807)) (k3 : s.op.topic.length ≤ 4194304) (k4 : s.op.group.length ≤ 4194304) (k5 : (-9223372036854775808 ≤ s.op.offset ∧ s.op.offset ≤ 9223372036854775807)) (k6 : (tL tY).rd inn w [v1] s.op.records) : tRequest.rd inn w [.int .i64 s.client, .int .i64 s.time, .int .i64 s.op.kind, .string (bstr s.op.topic), .string (bstr s.op.group), .int .i64 s.op.offset, v1] s := by
  exact ⟨[.int .i64 s.client], [.int .i64 s.time, .int .i64 s.op.kind, .string (bstr s.op.topic), .string (bstr s.op.group), .int .i64 s.op.offset, v1], rfl, ⟨rfl, k0⟩, [.int .i64 s.time], [.int .i64 s.op.kind, .string (bstr s.op.topic), .string (bstr s.op.group), .int .i64 s.op.offset, v1], rfl, ⟨rfl, k1⟩, tOp.mk k2 k3 k4 k5 k6⟩
structure SignedD where
  request : RequestD
  sign : SignD
def tSigned : Ty SignedD := tM (tP tRequest tSign) (fun s : SignedD => (s.request, s.sign))
theorem open_Signed : Opens Tryz.prog 105 tSigned := by
  refine opensT (fun p => ⟨p.1, p.2⟩) (fun _ => rfl) Tryz.underlying105 ?_ (by kernel_rfl)
  simp only
  refine opensFc (o' := 7) rfl rfl ?_ ?_
  · exact open_Request
  refine opensF1 rfl ?_
  exact open_Sign
theorem tSigned.parts {inn : Nat → Prop} {w : World} {cs : List Value} {s : SignedD} (h : tSigned.rd inn w cs s) : ∃ v1, cs = [.int .i64 s.request.client, .int .i64 s.request.time, .int .i64 s.request.op.kind, .string (bstr s.request.op.topic), .string (bstr s.request.op.group), .int .i64 s.request.op.offset, v1, .int .i64 s.sign.key, .int .i64 s.sign.digest] ∧ (-9223372036854775808 ≤ s.request.client ∧ s.request.client ≤ 9223372036854775807) ∧ (-9223372036854775808 ≤ s.request.time ∧ s.request.time ≤ 9223372036854775807) ∧ (-9223372036854775808 ≤ s.request.op.kind ∧ s.request.op.kind ≤ 9223372036854775807) ∧ s.request.op.topic.length ≤ 4194304 ∧ s.request.op.group.length ≤ 4194304 ∧ (-9223372036854775808 ≤ s.request.op.offset ∧ s.request.op.offset ≤ 9223372036854775807) ∧ (tL tY).rd inn w [v1] s.request.op.records ∧ (-9223372036854775808 ≤ s.sign.key ∧ s.sign.key ≤ 9223372036854775807) ∧ (-9223372036854775808 ≤ s.sign.digest ∧ s.sign.digest ≤ 9223372036854775807) := by
  obtain ⟨c0, c1, rfl, h0, h1⟩ := h
  obtain ⟨u0_0, rfl, f0_0, f0_1, f0_2, f0_3, f0_4, f0_5, f0_6⟩ := tRequest.parts h0
  obtain ⟨rfl, f1_0, f1_1⟩ := tSign.parts h1
  exact ⟨u0_0, rfl, f0_0, f0_1, f0_2, f0_3, f0_4, f0_5, f0_6, f1_0, f1_1⟩
theorem tSigned.mk {inn : Nat → Prop} {w : World} {s : SignedD} {v1 : Value} (k0 : (-9223372036854775808 ≤ s.request.client ∧ s.request.client ≤ 9223372036854775807)) (k1 : (-9223372036854775808 ≤ s.request.time ∧ s.request.time ≤ 9223372036854775807)) (k2 : (-9223372036854775808 ≤ s.request.op.kind ∧ s.request.op.kind ≤ 9223372036854775807)) (k3 : s.request.op.topic.length ≤ 4194304) (k4 : s.request.op.group.length ≤ 4194304) (k5 : (-9223372036854775808 ≤ s.request.op.offset ∧ s.request.op.offset ≤ 9223372036854775807)) (k6 : (tL tY).rd inn w [v1] s.request.op.records) (k7 : (-9223372036854775808 ≤ s.sign.key ∧ s.sign.key ≤ 9223372036854775807)) (k8 : (-9223372036854775808 ≤ s.sign.digest ∧ s.sign.digest ≤ 9223372036854775807)) : tSigned.rd inn w [.int .i64 s.request.client, .int .i64 s.request.time, .int .i64 s.request.op.kind, .string (bstr s.request.op.topic), .string (bstr s.request.op.group), .int .i64 s.request.op.offset, v1, .int .i64 s.sign.key, .int .i64 s.sign.digest] s := by
  exact ⟨[.int .i64 s.request.client, .int .i64 s.request.time, .int .i64 s.request.op.kind, .string (bstr s.request.op.topic), .string (bstr s.request.op.group), .int .i64 s.request.op.offset, v1], [.int .i64 s.sign.key, .int .i64 s.sign.digest], rfl, tRequest.mk k0 k1 k2 k3 k4 k5 k6, tSign.mk k7 k8⟩
structure HeaderD where
  seq : Int
  prev : Int
  batch : Int
  root : Int
  state : Int
def tHeader : Ty HeaderD := tM (tP tI (tP tI (tP tI (tP tI tI)))) (fun s : HeaderD => (s.seq, s.prev, s.batch, s.root, s.state))
theorem open_Header : Opens Tryz.prog 111 tHeader := by
  refine opensT (fun p => ⟨p.1, p.2.1, p.2.2.1, p.2.2.2.1, p.2.2.2.2⟩) (fun _ => rfl) Tryz.underlying111 ?_ (by kernel_rfl)
  simp only
  refine opensFc (o' := 1) rfl rfl ?_ ?_
  · exact opensI Tryz.underlying2 (by kernel_rfl)
  refine opensFc (o' := 2) rfl rfl ?_ ?_
  · exact opensI Tryz.underlying38 (by kernel_rfl)
  refine opensFc (o' := 3) rfl rfl ?_ ?_
  · exact opensI Tryz.underlying38 (by kernel_rfl)
  refine opensFc (o' := 4) rfl rfl ?_ ?_
  · exact opensI Tryz.underlying38 (by kernel_rfl)
  refine opensF1 rfl ?_
  exact opensI Tryz.underlying38 (by kernel_rfl)
theorem tHeader.parts {inn : Nat → Prop} {w : World} {cs : List Value} {s : HeaderD} (h : tHeader.rd inn w cs s) : cs = [.int .i64 s.seq, .int .i64 s.prev, .int .i64 s.batch, .int .i64 s.root, .int .i64 s.state] ∧ (-9223372036854775808 ≤ s.seq ∧ s.seq ≤ 9223372036854775807) ∧ (-9223372036854775808 ≤ s.prev ∧ s.prev ≤ 9223372036854775807) ∧ (-9223372036854775808 ≤ s.batch ∧ s.batch ≤ 9223372036854775807) ∧ (-9223372036854775808 ≤ s.root ∧ s.root ≤ 9223372036854775807) ∧ (-9223372036854775808 ≤ s.state ∧ s.state ≤ 9223372036854775807) := by
  obtain ⟨c0, e1, rfl, h0, c1, e2, rfl, h1, c2, e3, rfl, h2, c3, c4, rfl, h3, h4⟩ := h
  obtain ⟨rfl, b0⟩ := h0
  obtain ⟨rfl, b1⟩ := h1
  obtain ⟨rfl, b2⟩ := h2
  obtain ⟨rfl, b3⟩ := h3
  obtain ⟨rfl, b4⟩ := h4
  exact ⟨rfl, b0, b1, b2, b3, b4⟩
theorem tHeader.mk {inn : Nat → Prop} {w : World} {s : HeaderD} (k0 : (-9223372036854775808 ≤ s.seq ∧ s.seq ≤ 9223372036854775807)) (k1 : (-9223372036854775808 ≤ s.prev ∧ s.prev ≤ 9223372036854775807)) (k2 : (-9223372036854775808 ≤ s.batch ∧ s.batch ≤ 9223372036854775807)) (k3 : (-9223372036854775808 ≤ s.root ∧ s.root ≤ 9223372036854775807)) (k4 : (-9223372036854775808 ≤ s.state ∧ s.state ≤ 9223372036854775807)) : tHeader.rd inn w [.int .i64 s.seq, .int .i64 s.prev, .int .i64 s.batch, .int .i64 s.root, .int .i64 s.state] s := by
  exact ⟨[.int .i64 s.seq], [.int .i64 s.prev, .int .i64 s.batch, .int .i64 s.root, .int .i64 s.state], rfl, ⟨rfl, k0⟩, [.int .i64 s.prev], [.int .i64 s.batch, .int .i64 s.root, .int .i64 s.state], rfl, ⟨rfl, k1⟩, [.int .i64 s.batch], [.int .i64 s.root, .int .i64 s.state], rfl, ⟨rfl, k2⟩, [.int .i64 s.root], [.int .i64 s.state], rfl, ⟨rfl, k3⟩, ⟨rfl, k4⟩⟩
structure CertD where
  seq : Int
  digest : Int
  signs : List (SignD)
def tCert : Ty CertD := tM (tP tI (tP tI (tL tSign))) (fun s : CertD => (s.seq, s.digest, s.signs))
theorem open_Cert : Opens Tryz.prog 45 tCert := by
  refine opensT (fun p => ⟨p.1, p.2.1, p.2.2⟩) (fun _ => rfl) Tryz.underlying45 ?_ (by kernel_rfl)
  simp only
  refine opensFc (o' := 1) rfl rfl ?_ ?_
  · exact opensI Tryz.underlying2 (by kernel_rfl)
  refine opensFc (o' := 2) rfl rfl ?_ ?_
  · exact opensI Tryz.underlying38 (by kernel_rfl)
  refine opensF1 rfl ?_
  refine opensL Tryz.underlying43 ?_ (by decide) (by kernel_rfl)
  exact open_Sign
theorem tCert.parts {inn : Nat → Prop} {w : World} {cs : List Value} {s : CertD} (h : tCert.rd inn w cs s) : ∃ v1, cs = [.int .i64 s.seq, .int .i64 s.digest, v1] ∧ (-9223372036854775808 ≤ s.seq ∧ s.seq ≤ 9223372036854775807) ∧ (-9223372036854775808 ≤ s.digest ∧ s.digest ≤ 9223372036854775807) ∧ (tL tSign).rd inn w [v1] s.signs := by
  obtain ⟨c0, e1, rfl, h0, c1, c2, rfl, h1, h2⟩ := h
  obtain ⟨rfl, b0⟩ := h0
  obtain ⟨rfl, b1⟩ := h1
  obtain ⟨u2, rfl⟩ := len1 ((tL tSign).len h2)
  exact ⟨u2, rfl, b0, b1, h2⟩
theorem tCert.mk {inn : Nat → Prop} {w : World} {s : CertD} {v1 : Value} (k0 : (-9223372036854775808 ≤ s.seq ∧ s.seq ≤ 9223372036854775807)) (k1 : (-9223372036854775808 ≤ s.digest ∧ s.digest ≤ 9223372036854775807)) (k2 : (tL tSign).rd inn w [v1] s.signs) : tCert.rd inn w [.int .i64 s.seq, .int .i64 s.digest, v1] s := by
  exact ⟨[.int .i64 s.seq], [.int .i64 s.digest, v1], rfl, ⟨rfl, k0⟩, [.int .i64 s.digest], [v1], rfl, ⟨rfl, k1⟩, k2⟩
structure PreparedD where
  view : Int
  seq : Int
  digest : Int
  firstS : SignD
  signs : List (SignD)
  batch : List (SignedD)
def tPrepared : Ty PreparedD := tM (tP tI (tP tI (tP tI (tP tSign (tP (tL tSign) (tL tSigned)))))) (fun s : PreparedD => (s.view, s.seq, s.digest, s.firstS, s.signs, s.batch))
theorem open_Prepared : Opens Tryz.prog 114 tPrepared := by
  refine opensT (fun p => ⟨p.1, p.2.1, p.2.2.1, p.2.2.2.1, p.2.2.2.2.1, p.2.2.2.2.2⟩) (fun _ => rfl) Tryz.underlying114 ?_ (by kernel_rfl)
  simp only
  refine opensFc (o' := 1) rfl rfl ?_ ?_
  · exact opensI Tryz.underlying2 (by kernel_rfl)
  refine opensFc (o' := 2) rfl rfl ?_ ?_
  · exact opensI Tryz.underlying2 (by kernel_rfl)
  refine opensFc (o' := 3) rfl rfl ?_ ?_
  · exact opensI Tryz.underlying38 (by kernel_rfl)
  refine opensFc (o' := 5) rfl rfl ?_ ?_
  · exact open_Sign
  refine opensFc (o' := 6) rfl rfl ?_ ?_
  · refine opensL Tryz.underlying43 ?_ (by decide) (by kernel_rfl)
    exact open_Sign
  refine opensF1 rfl ?_
  refine opensL Tryz.underlying42 ?_ (by decide) (by kernel_rfl)
  exact open_Signed
theorem tPrepared.parts {inn : Nat → Prop} {w : World} {cs : List Value} {s : PreparedD} (h : tPrepared.rd inn w cs s) : ∃ v1 v2, cs = [.int .i64 s.view, .int .i64 s.seq, .int .i64 s.digest, .int .i64 s.firstS.key, .int .i64 s.firstS.digest, v1, v2] ∧ (-9223372036854775808 ≤ s.view ∧ s.view ≤ 9223372036854775807) ∧ (-9223372036854775808 ≤ s.seq ∧ s.seq ≤ 9223372036854775807) ∧ (-9223372036854775808 ≤ s.digest ∧ s.digest ≤ 9223372036854775807) ∧ (-9223372036854775808 ≤ s.firstS.key ∧ s.firstS.key ≤ 9223372036854775807) ∧ (-9223372036854775808 ≤ s.firstS.digest ∧ s.firstS.digest ≤ 9223372036854775807) ∧ (tL tSign).rd inn w [v1] s.signs ∧ (tL tSigned).rd inn w [v2] s.batch := by
  obtain ⟨c0, e1, rfl, h0, c1, e2, rfl, h1, c2, e3, rfl, h2, c3, e4, rfl, h3, c4, c5, rfl, h4, h5⟩ := h
  obtain ⟨rfl, b0⟩ := h0
  obtain ⟨rfl, b1⟩ := h1
  obtain ⟨rfl, b2⟩ := h2
  obtain ⟨rfl, f3_0, f3_1⟩ := tSign.parts h3
  obtain ⟨u4, rfl⟩ := len1 ((tL tSign).len h4)
  obtain ⟨u5, rfl⟩ := len1 ((tL tSigned).len h5)
  exact ⟨u4, u5, rfl, b0, b1, b2, f3_0, f3_1, h4, h5⟩
theorem tPrepared.mk {inn : Nat → Prop} {w : World} {s : PreparedD} {v1 v2 : Value} (k0 : (-9223372036854775808 ≤ s.view ∧ s.view ≤ 9223372036854775807)) (k1 : (-9223372036854775808 ≤ s.seq ∧ s.seq ≤ 9223372036854775807)) (k2 : (-9223372036854775808 ≤ s.digest ∧ s.digest ≤ 9223372036854775807)) (k3 : (-9223372036854775808 ≤ s.firstS.key ∧ s.firstS.key ≤ 9223372036854775807)) (k4 : (-9223372036854775808 ≤ s.firstS.digest ∧ s.firstS.digest ≤ 9223372036854775807)) (k5 : (tL tSign).rd inn w [v1] s.signs) (k6 : (tL tSigned).rd inn w [v2] s.batch) : tPrepared.rd inn w [.int .i64 s.view, .int .i64 s.seq, .int .i64 s.digest, .int .i64 s.firstS.key, .int .i64 s.firstS.digest, v1, v2] s := by
  exact ⟨[.int .i64 s.view], [.int .i64 s.seq, .int .i64 s.digest, .int .i64 s.firstS.key, .int .i64 s.firstS.digest, v1, v2], rfl, ⟨rfl, k0⟩, [.int .i64 s.seq], [.int .i64 s.digest, .int .i64 s.firstS.key, .int .i64 s.firstS.digest, v1, v2], rfl, ⟨rfl, k1⟩, [.int .i64 s.digest], [.int .i64 s.firstS.key, .int .i64 s.firstS.digest, v1, v2], rfl, ⟨rfl, k2⟩, [.int .i64 s.firstS.key, .int .i64 s.firstS.digest], [v1, v2], rfl, tSign.mk k3 k4, [v1], [v2], rfl, k5, k6⟩
structure ChangeD where
  view : Int
  src : Int
  cert : CertD
  above : List (PreparedD)
  sign : SignD
def tChange : Ty ChangeD := tM (tP tI (tP tI (tP tCert (tP (tL tPrepared) tSign)))) (fun s : ChangeD => (s.view, s.src, s.cert, s.above, s.sign))
theorem open_Change : Opens Tryz.prog 90 tChange := by
  refine opensT (fun p => ⟨p.1, p.2.1, p.2.2.1, p.2.2.2.1, p.2.2.2.2⟩) (fun _ => rfl) Tryz.underlying90 ?_ (by kernel_rfl)
  simp only
  refine opensFc (o' := 1) rfl rfl ?_ ?_
  · exact opensI Tryz.underlying2 (by kernel_rfl)
  refine opensFc (o' := 2) rfl rfl ?_ ?_
  · exact opensI Tryz.underlying3 (by kernel_rfl)
  refine opensFc (o' := 5) rfl rfl ?_ ?_
  · exact open_Cert
  refine opensFc (o' := 6) rfl rfl ?_ ?_
  · refine opensL Tryz.underlying88 ?_ (by decide) (by kernel_rfl)
    exact open_Prepared
  refine opensF1 rfl ?_
  exact open_Sign
theorem tChange.parts {inn : Nat → Prop} {w : World} {cs : List Value} {s : ChangeD} (h : tChange.rd inn w cs s) : ∃ v1 v2, cs = [.int .i64 s.view, .int .i64 s.src, .int .i64 s.cert.seq, .int .i64 s.cert.digest, v1, v2, .int .i64 s.sign.key, .int .i64 s.sign.digest] ∧ (-9223372036854775808 ≤ s.view ∧ s.view ≤ 9223372036854775807) ∧ (-9223372036854775808 ≤ s.src ∧ s.src ≤ 9223372036854775807) ∧ (-9223372036854775808 ≤ s.cert.seq ∧ s.cert.seq ≤ 9223372036854775807) ∧ (-9223372036854775808 ≤ s.cert.digest ∧ s.cert.digest ≤ 9223372036854775807) ∧ (tL tSign).rd inn w [v1] s.cert.signs ∧ (tL tPrepared).rd inn w [v2] s.above ∧ (-9223372036854775808 ≤ s.sign.key ∧ s.sign.key ≤ 9223372036854775807) ∧ (-9223372036854775808 ≤ s.sign.digest ∧ s.sign.digest ≤ 9223372036854775807) := by
  obtain ⟨c0, e1, rfl, h0, c1, e2, rfl, h1, c2, e3, rfl, h2, c3, c4, rfl, h3, h4⟩ := h
  obtain ⟨rfl, b0⟩ := h0
  obtain ⟨rfl, b1⟩ := h1
  obtain ⟨u2_0, rfl, f2_0, f2_1, f2_2⟩ := tCert.parts h2
  obtain ⟨u3, rfl⟩ := len1 ((tL tPrepared).len h3)
  obtain ⟨rfl, f4_0, f4_1⟩ := tSign.parts h4
  exact ⟨u2_0, u3, rfl, b0, b1, f2_0, f2_1, f2_2, h3, f4_0, f4_1⟩
theorem tChange.mk {inn : Nat → Prop} {w : World} {s : ChangeD} {v1 v2 : Value} (k0 : (-9223372036854775808 ≤ s.view ∧ s.view ≤ 9223372036854775807)) (k1 : (-9223372036854775808 ≤ s.src ∧ s.src ≤ 9223372036854775807)) (k2 : (-9223372036854775808 ≤ s.cert.seq ∧ s.cert.seq ≤ 9223372036854775807)) (k3 : (-9223372036854775808 ≤ s.cert.digest ∧ s.cert.digest ≤ 9223372036854775807)) (k4 : (tL tSign).rd inn w [v1] s.cert.signs) (k5 : (tL tPrepared).rd inn w [v2] s.above) (k6 : (-9223372036854775808 ≤ s.sign.key ∧ s.sign.key ≤ 9223372036854775807)) (k7 : (-9223372036854775808 ≤ s.sign.digest ∧ s.sign.digest ≤ 9223372036854775807)) : tChange.rd inn w [.int .i64 s.view, .int .i64 s.src, .int .i64 s.cert.seq, .int .i64 s.cert.digest, v1, v2, .int .i64 s.sign.key, .int .i64 s.sign.digest] s := by
  exact ⟨[.int .i64 s.view], [.int .i64 s.src, .int .i64 s.cert.seq, .int .i64 s.cert.digest, v1, v2, .int .i64 s.sign.key, .int .i64 s.sign.digest], rfl, ⟨rfl, k0⟩, [.int .i64 s.src], [.int .i64 s.cert.seq, .int .i64 s.cert.digest, v1, v2, .int .i64 s.sign.key, .int .i64 s.sign.digest], rfl, ⟨rfl, k1⟩, [.int .i64 s.cert.seq, .int .i64 s.cert.digest, v1], [v2, .int .i64 s.sign.key, .int .i64 s.sign.digest], rfl, tCert.mk k2 k3 k4, [v2], [.int .i64 s.sign.key, .int .i64 s.sign.digest], rfl, k5, tSign.mk k6 k7⟩
structure EntryD where
  view : Int
  seq : Int
  batch : List (SignedD)
  sign : SignD
def tEntry : Ty EntryD := tM (tP tI (tP tI (tP (tL tSigned) tSign))) (fun s : EntryD => (s.view, s.seq, s.batch, s.sign))
theorem open_Entry : Opens Tryz.prog 109 tEntry := by
  refine opensT (fun p => ⟨p.1, p.2.1, p.2.2.1, p.2.2.2⟩) (fun _ => rfl) Tryz.underlying109 ?_ (by kernel_rfl)
  simp only
  refine opensFc (o' := 1) rfl rfl ?_ ?_
  · exact opensI Tryz.underlying2 (by kernel_rfl)
  refine opensFc (o' := 2) rfl rfl ?_ ?_
  · exact opensI Tryz.underlying2 (by kernel_rfl)
  refine opensFc (o' := 3) rfl rfl ?_ ?_
  · refine opensL Tryz.underlying42 ?_ (by decide) (by kernel_rfl)
    exact open_Signed
  refine opensF1 rfl ?_
  exact open_Sign
theorem tEntry.parts {inn : Nat → Prop} {w : World} {cs : List Value} {s : EntryD} (h : tEntry.rd inn w cs s) : ∃ v1, cs = [.int .i64 s.view, .int .i64 s.seq, v1, .int .i64 s.sign.key, .int .i64 s.sign.digest] ∧ (-9223372036854775808 ≤ s.view ∧ s.view ≤ 9223372036854775807) ∧ (-9223372036854775808 ≤ s.seq ∧ s.seq ≤ 9223372036854775807) ∧ (tL tSigned).rd inn w [v1] s.batch ∧ (-9223372036854775808 ≤ s.sign.key ∧ s.sign.key ≤ 9223372036854775807) ∧ (-9223372036854775808 ≤ s.sign.digest ∧ s.sign.digest ≤ 9223372036854775807) := by
  obtain ⟨c0, e1, rfl, h0, c1, e2, rfl, h1, c2, c3, rfl, h2, h3⟩ := h
  obtain ⟨rfl, b0⟩ := h0
  obtain ⟨rfl, b1⟩ := h1
  obtain ⟨u2, rfl⟩ := len1 ((tL tSigned).len h2)
  obtain ⟨rfl, f3_0, f3_1⟩ := tSign.parts h3
  exact ⟨u2, rfl, b0, b1, h2, f3_0, f3_1⟩
theorem tEntry.mk {inn : Nat → Prop} {w : World} {s : EntryD} {v1 : Value} (k0 : (-9223372036854775808 ≤ s.view ∧ s.view ≤ 9223372036854775807)) (k1 : (-9223372036854775808 ≤ s.seq ∧ s.seq ≤ 9223372036854775807)) (k2 : (tL tSigned).rd inn w [v1] s.batch) (k3 : (-9223372036854775808 ≤ s.sign.key ∧ s.sign.key ≤ 9223372036854775807)) (k4 : (-9223372036854775808 ≤ s.sign.digest ∧ s.sign.digest ≤ 9223372036854775807)) : tEntry.rd inn w [.int .i64 s.view, .int .i64 s.seq, v1, .int .i64 s.sign.key, .int .i64 s.sign.digest] s := by
  exact ⟨[.int .i64 s.view], [.int .i64 s.seq, v1, .int .i64 s.sign.key, .int .i64 s.sign.digest], rfl, ⟨rfl, k0⟩, [.int .i64 s.seq], [v1, .int .i64 s.sign.key, .int .i64 s.sign.digest], rfl, ⟨rfl, k1⟩, [v1], [.int .i64 s.sign.key, .int .i64 s.sign.digest], rfl, k2, tSign.mk k3 k4⟩
structure ProofD where
  topic : List UInt8
  offset : Int
  record : List UInt8
  headers : List (HeaderD)
  index : Int
  count : Int
  path : List (Int)
  cert : CertD
def tProof : Ty ProofD := tM (tP tS (tP tI (tP tY (tP (tL tHeader) (tP tI (tP tI (tP (tL tI) tCert))))))) (fun s : ProofD => (s.topic, s.offset, s.record, s.headers, s.index, s.count, s.path, s.cert))
theorem open_Proof : Opens Tryz.prog 52 tProof := by
  refine opensT (fun p => ⟨p.1, p.2.1, p.2.2.1, p.2.2.2.1, p.2.2.2.2.1, p.2.2.2.2.2.1, p.2.2.2.2.2.2.1, p.2.2.2.2.2.2.2⟩) (fun _ => rfl) Tryz.underlying52 ?_ (by kernel_rfl)
  simp only
  refine opensFc (o' := 1) rfl rfl ?_ ?_
  · exact opensS Tryz.underlying9 (by kernel_rfl)
  refine opensFc (o' := 2) rfl rfl ?_ ?_
  · exact opensI Tryz.underlying2 (by kernel_rfl)
  refine opensFc (o' := 3) rfl rfl ?_ ?_
  · exact opensY Tryz.underlying48 Tryz.underlying5 (by kernel_rfl) (by kernel_rfl)
  refine opensFc (o' := 4) rfl rfl ?_ ?_
  · refine opensL Tryz.underlying49 ?_ (by decide) (by kernel_rfl)
    exact open_Header
  refine opensFc (o' := 5) rfl rfl ?_ ?_
  · exact opensI Tryz.underlying3 (by kernel_rfl)
  refine opensFc (o' := 6) rfl rfl ?_ ?_
  · exact opensI Tryz.underlying3 (by kernel_rfl)
  refine opensFc (o' := 7) rfl rfl ?_ ?_
  · refine opensL Tryz.underlying50 ?_ (by decide) (by kernel_rfl)
    exact opensI Tryz.underlying38 (by kernel_rfl)
  refine opensF1 rfl ?_
  exact open_Cert
theorem tProof.parts {inn : Nat → Prop} {w : World} {cs : List Value} {s : ProofD} (h : tProof.rd inn w cs s) : ∃ v1 v2 v3 v4, cs = [.string (bstr s.topic), .int .i64 s.offset, v1, v2, .int .i64 s.index, .int .i64 s.count, v3, .int .i64 s.cert.seq, .int .i64 s.cert.digest, v4] ∧ s.topic.length ≤ 4194304 ∧ (-9223372036854775808 ≤ s.offset ∧ s.offset ≤ 9223372036854775807) ∧ tY.rd inn w [v1] s.record ∧ (tL tHeader).rd inn w [v2] s.headers ∧ (-9223372036854775808 ≤ s.index ∧ s.index ≤ 9223372036854775807) ∧ (-9223372036854775808 ≤ s.count ∧ s.count ≤ 9223372036854775807) ∧ (tL tI).rd inn w [v3] s.path ∧ (-9223372036854775808 ≤ s.cert.seq ∧ s.cert.seq ≤ 9223372036854775807) ∧ (-9223372036854775808 ≤ s.cert.digest ∧ s.cert.digest ≤ 9223372036854775807) ∧ (tL tSign).rd inn w [v4] s.cert.signs := by
  obtain ⟨c0, e1, rfl, h0, c1, e2, rfl, h1, c2, e3, rfl, h2, c3, e4, rfl, h3, c4, e5, rfl, h4, c5, e6, rfl, h5, c6, c7, rfl, h6, h7⟩ := h
  obtain ⟨rfl, b0⟩ := h0
  obtain ⟨rfl, b1⟩ := h1
  obtain ⟨u2, rfl⟩ := len1 (tY.len h2)
  obtain ⟨u3, rfl⟩ := len1 ((tL tHeader).len h3)
  obtain ⟨rfl, b4⟩ := h4
  obtain ⟨rfl, b5⟩ := h5
  obtain ⟨u6, rfl⟩ := len1 ((tL tI).len h6)
  obtain ⟨u7_0, rfl, f7_0, f7_1, f7_2⟩ := tCert.parts h7
  exact ⟨u2, u3, u6, u7_0, rfl, b0, b1, h2, h3, b4, b5, h6, f7_0, f7_1, f7_2⟩
theorem tProof.mk {inn : Nat → Prop} {w : World} {s : ProofD} {v1 v2 v3 v4 : Value} (k0 : s.topic.length ≤ 4194304) (k1 : (-9223372036854775808 ≤ s.offset ∧ s.offset ≤ 9223372036854775807)) (k2 : tY.rd inn w [v1] s.record) (k3 : (tL tHeader).rd inn w [v2] s.headers) (k4 : (-9223372036854775808 ≤ s.index ∧ s.index ≤ 9223372036854775807)) (k5 : (-9223372036854775808 ≤ s.count ∧ s.count ≤ 9223372036854775807)) (k6 : (tL tI).rd inn w [v3] s.path) (k7 : (-9223372036854775808 ≤ s.cert.seq ∧ s.cert.seq ≤ 9223372036854775807)) (k8 : (-9223372036854775808 ≤ s.cert.digest ∧ s.cert.digest ≤ 9223372036854775807)) (k9 : (tL tSign).rd inn w [v4] s.cert.signs) : tProof.rd inn w [.string (bstr s.topic), .int .i64 s.offset, v1, v2, .int .i64 s.index, .int .i64 s.count, v3, .int .i64 s.cert.seq, .int .i64 s.cert.digest, v4] s := by
  exact ⟨[.string (bstr s.topic)], [.int .i64 s.offset, v1, v2, .int .i64 s.index, .int .i64 s.count, v3, .int .i64 s.cert.seq, .int .i64 s.cert.digest, v4], rfl, ⟨rfl, k0⟩, [.int .i64 s.offset], [v1, v2, .int .i64 s.index, .int .i64 s.count, v3, .int .i64 s.cert.seq, .int .i64 s.cert.digest, v4], rfl, ⟨rfl, k1⟩, [v1], [v2, .int .i64 s.index, .int .i64 s.count, v3, .int .i64 s.cert.seq, .int .i64 s.cert.digest, v4], rfl, k2, [v2], [.int .i64 s.index, .int .i64 s.count, v3, .int .i64 s.cert.seq, .int .i64 s.cert.digest, v4], rfl, k3, [.int .i64 s.index], [.int .i64 s.count, v3, .int .i64 s.cert.seq, .int .i64 s.cert.digest, v4], rfl, ⟨rfl, k4⟩, [.int .i64 s.count], [v3, .int .i64 s.cert.seq, .int .i64 s.cert.digest, v4], rfl, ⟨rfl, k5⟩, [v3], [.int .i64 s.cert.seq, .int .i64 s.cert.digest, v4], rfl, k6, tCert.mk k7 k8 k9⟩
structure MsgD where
  kind : Int
  src : Int
  view : Int
  seq : Int
  digest : Int
  client : Int
  time : Int
  result : ResultD
  batch : List (SignedD)
  cert : CertD
  changes : List (ChangeD)
  entries : List (EntryD)
  state : List UInt8
  topic : List UInt8
  offset : Int
  proof : ProofD
  sign : SignD
def tMsg : Ty MsgD := tM (tP tI (tP tI (tP tI (tP tI (tP tI (tP tI (tP tI (tP tResult (tP (tL tSigned) (tP tCert (tP (tL tChange) (tP (tL tEntry) (tP tY (tP tS (tP tI (tP tProof tSign)))))))))))))))) (fun s : MsgD => (s.kind, s.src, s.view, s.seq, s.digest, s.client, s.time, s.result, s.batch, s.cert, s.changes, s.entries, s.state, s.topic, s.offset, s.proof, s.sign))
theorem open_Msg : Opens Tryz.prog 56 tMsg := by
  refine opensT (fun p => ⟨p.1, p.2.1, p.2.2.1, p.2.2.2.1, p.2.2.2.2.1, p.2.2.2.2.2.1, p.2.2.2.2.2.2.1, p.2.2.2.2.2.2.2.1, p.2.2.2.2.2.2.2.2.1, p.2.2.2.2.2.2.2.2.2.1, p.2.2.2.2.2.2.2.2.2.2.1, p.2.2.2.2.2.2.2.2.2.2.2.1, p.2.2.2.2.2.2.2.2.2.2.2.2.1, p.2.2.2.2.2.2.2.2.2.2.2.2.2.1, p.2.2.2.2.2.2.2.2.2.2.2.2.2.2.1, p.2.2.2.2.2.2.2.2.2.2.2.2.2.2.2.1, p.2.2.2.2.2.2.2.2.2.2.2.2.2.2.2.2⟩) (fun _ => rfl) Tryz.underlying56 ?_ (by kernel_rfl)
  simp only
  refine opensFc (o' := 1) rfl rfl ?_ ?_
  · exact opensI Tryz.underlying3 (by kernel_rfl)
  refine opensFc (o' := 2) rfl rfl ?_ ?_
  · exact opensI Tryz.underlying3 (by kernel_rfl)
  refine opensFc (o' := 3) rfl rfl ?_ ?_
  · exact opensI Tryz.underlying2 (by kernel_rfl)
  refine opensFc (o' := 4) rfl rfl ?_ ?_
  · exact opensI Tryz.underlying2 (by kernel_rfl)
  refine opensFc (o' := 5) rfl rfl ?_ ?_
  · exact opensI Tryz.underlying38 (by kernel_rfl)
  refine opensFc (o' := 6) rfl rfl ?_ ?_
  · exact opensI Tryz.underlying3 (by kernel_rfl)
  refine opensFc (o' := 7) rfl rfl ?_ ?_
  · exact opensI Tryz.underlying2 (by kernel_rfl)
  refine opensFc (o' := 9) rfl rfl ?_ ?_
  · exact open_Result
  refine opensFc (o' := 10) rfl rfl ?_ ?_
  · refine opensL Tryz.underlying42 ?_ (by decide) (by kernel_rfl)
    exact open_Signed
  refine opensFc (o' := 13) rfl rfl ?_ ?_
  · exact open_Cert
  refine opensFc (o' := 14) rfl rfl ?_ ?_
  · refine opensL Tryz.underlying46 ?_ (by decide) (by kernel_rfl)
    exact open_Change
  refine opensFc (o' := 15) rfl rfl ?_ ?_
  · refine opensL Tryz.underlying47 ?_ (by decide) (by kernel_rfl)
    exact open_Entry
  refine opensFc (o' := 16) rfl rfl ?_ ?_
  · exact opensY Tryz.underlying37 Tryz.underlying5 (by kernel_rfl) (by kernel_rfl)
  refine opensFc (o' := 17) rfl rfl ?_ ?_
  · exact opensS Tryz.underlying9 (by kernel_rfl)
  refine opensFc (o' := 18) rfl rfl ?_ ?_
  · exact opensI Tryz.underlying2 (by kernel_rfl)
  refine opensFc (o' := 28) rfl rfl ?_ ?_
  · exact open_Proof
  refine opensF1 rfl ?_
  exact open_Sign
theorem tMsg.parts {inn : Nat → Prop} {w : World} {cs : List Value} {s : MsgD} (h : tMsg.rd inn w cs s) : ∃ v1 v2 v3 v4 v5 v6 v7 v8 v9, cs = [.int .i64 s.kind, .int .i64 s.src, .int .i64 s.view, .int .i64 s.seq, .int .i64 s.digest, .int .i64 s.client, .int .i64 s.time, .int .i64 s.result.err, .int .i64 s.result.offset, v1, .int .i64 s.cert.seq, .int .i64 s.cert.digest, v2, v3, v4, v5, .string (bstr s.topic), .int .i64 s.offset, .string (bstr s.proof.topic), .int .i64 s.proof.offset, v6, v7, .int .i64 s.proof.index, .int .i64 s.proof.count, v8, .int .i64 s.proof.cert.seq, .int .i64 s.proof.cert.digest, v9, .int .i64 s.sign.key, .int .i64 s.sign.digest] ∧ (-9223372036854775808 ≤ s.kind ∧ s.kind ≤ 9223372036854775807) ∧ (-9223372036854775808 ≤ s.src ∧ s.src ≤ 9223372036854775807) ∧ (-9223372036854775808 ≤ s.view ∧ s.view ≤ 9223372036854775807) ∧ (-9223372036854775808 ≤ s.seq ∧ s.seq ≤ 9223372036854775807) ∧ (-9223372036854775808 ≤ s.digest ∧ s.digest ≤ 9223372036854775807) ∧ (-9223372036854775808 ≤ s.client ∧ s.client ≤ 9223372036854775807) ∧ (-9223372036854775808 ≤ s.time ∧ s.time ≤ 9223372036854775807) ∧ (-9223372036854775808 ≤ s.result.err ∧ s.result.err ≤ 9223372036854775807) ∧ (-9223372036854775808 ≤ s.result.offset ∧ s.result.offset ≤ 9223372036854775807) ∧ (tL tSigned).rd inn w [v1] s.batch ∧ (-9223372036854775808 ≤ s.cert.seq ∧ s.cert.seq ≤ 9223372036854775807) ∧ (-9223372036854775808 ≤ s.cert.digest ∧ s.cert.digest ≤ 9223372036854775807) ∧ (tL tSign).rd inn w [v2] s.cert.signs ∧ (tL tChange).rd inn w [v3] s.changes ∧ (tL tEntry).rd inn w [v4] s.entries ∧ tY.rd inn w [v5] s.state ∧ s.topic.length ≤ 4194304 ∧ (-9223372036854775808 ≤ s.offset ∧ s.offset ≤ 9223372036854775807) ∧ s.proof.topic.length ≤ 4194304 ∧ (-9223372036854775808 ≤ s.proof.offset ∧ s.proof.offset ≤ 9223372036854775807) ∧ tY.rd inn w [v6] s.proof.record ∧ (tL tHeader).rd inn w [v7] s.proof.headers ∧ (-9223372036854775808 ≤ s.proof.index ∧ s.proof.index ≤ 9223372036854775807) ∧ (-9223372036854775808 ≤ s.proof.count ∧ s.proof.count ≤ 9223372036854775807) ∧ (tL tI).rd inn w [v8] s.proof.path ∧ (-9223372036854775808 ≤ s.proof.cert.seq ∧ s.proof.cert.seq ≤ 9223372036854775807) ∧ (-9223372036854775808 ≤ s.proof.cert.digest ∧ s.proof.cert.digest ≤ 9223372036854775807) ∧ (tL tSign).rd inn w [v9] s.proof.cert.signs ∧ (-9223372036854775808 ≤ s.sign.key ∧ s.sign.key ≤ 9223372036854775807) ∧ (-9223372036854775808 ≤ s.sign.digest ∧ s.sign.digest ≤ 9223372036854775807) := by
  obtain ⟨c0, e1, rfl, h0, c1, e2, rfl, h1, c2, e3, rfl, h2, c3, e4, rfl, h3, c4, e5, rfl, h4, c5, e6, rfl, h5, c6, e7, rfl, h6, c7, e8, rfl, h7, c8, e9, rfl, h8, c9, e10, rfl, h9, c10, e11, rfl, h10, c11, e12, rfl, h11, c12, e13, rfl, h12, c13, e14, rfl, h13, c14, e15, rfl, h14, c15, c16, rfl, h15, h16⟩ := h
  obtain ⟨rfl, b0⟩ := h0
  obtain ⟨rfl, b1⟩ := h1
  obtain ⟨rfl, b2⟩ := h2
  obtain ⟨rfl, b3⟩ := h3
  obtain ⟨rfl, b4⟩ := h4
  obtain ⟨rfl, b5⟩ := h5
  obtain ⟨rfl, b6⟩ := h6
  obtain ⟨rfl, f7_0, f7_1⟩ := tResult.parts h7
  obtain ⟨u8, rfl⟩ := len1 ((tL tSigned).len h8)
  obtain ⟨u9_0, rfl, f9_0, f9_1, f9_2⟩ := tCert.parts h9
  obtain ⟨u10, rfl⟩ := len1 ((tL tChange).len h10)
  obtain ⟨u11, rfl⟩ := len1 ((tL tEntry).len h11)
  obtain ⟨u12, rfl⟩ := len1 (tY.len h12)
  obtain ⟨rfl, b13⟩ := h13
  obtain ⟨rfl, b14⟩ := h14
  obtain ⟨u15_0, u15_1, u15_2, u15_3, rfl, f15_0, f15_1, f15_2, f15_3, f15_4, f15_5, f15_6, f15_7, f15_8, f15_9⟩ := tProof.parts h15
  obtain ⟨rfl, f16_0, f16_1⟩ := tSign.parts h16
  exact ⟨u8, u9_0, u10, u11, u12, u15_0, u15_1, u15_2, u15_3, rfl, b0, b1, b2, b3, b4, b5, b6, f7_0, f7_1, h8, f9_0, f9_1, f9_2, h10, h11, h12, b13, b14, f15_0, f15_1, f15_2, f15_3, f15_4, f15_5, f15_6, f15_7, f15_8, f15_9, f16_0, f16_1⟩
theorem tMsg.mk {inn : Nat → Prop} {w : World} {s : MsgD} {v1 v2 v3 v4 v5 v6 v7 v8 v9 : Value} (k0 : (-9223372036854775808 ≤ s.kind ∧ s.kind ≤ 9223372036854775807)) (k1 : (-9223372036854775808 ≤ s.src ∧ s.src ≤ 9223372036854775807)) (k2 : (-9223372036854775808 ≤ s.view ∧ s.view ≤ 9223372036854775807)) (k3 : (-9223372036854775808 ≤ s.seq ∧ s.seq ≤ 9223372036854775807)) (k4 : (-9223372036854775808 ≤ s.digest ∧ s.digest ≤ 9223372036854775807)) (k5 : (-9223372036854775808 ≤ s.client ∧ s.client ≤ 9223372036854775807)) (k6 : (-9223372036854775808 ≤ s.time ∧ s.time ≤ 9223372036854775807)) (k7 : (-9223372036854775808 ≤ s.result.err ∧ s.result.err ≤ 9223372036854775807)) (k8 : (-9223372036854775808 ≤ s.result.offset ∧ s.result.offset ≤ 9223372036854775807)) (k9 : (tL tSigned).rd inn w [v1] s.batch) (k10 : (-9223372036854775808 ≤ s.cert.seq ∧ s.cert.seq ≤ 9223372036854775807)) (k11 : (-9223372036854775808 ≤ s.cert.digest ∧ s.cert.digest ≤ 9223372036854775807)) (k12 : (tL tSign).rd inn w [v2] s.cert.signs) (k13 : (tL tChange).rd inn w [v3] s.changes) (k14 : (tL tEntry).rd inn w [v4] s.entries) (k15 : tY.rd inn w [v5] s.state) (k16 : s.topic.length ≤ 4194304) (k17 : (-9223372036854775808 ≤ s.offset ∧ s.offset ≤ 9223372036854775807)) (k18 : s.proof.topic.length ≤ 4194304) (k19 : (-9223372036854775808 ≤ s.proof.offset ∧ s.proof.offset ≤ 9223372036854775807)) (k20 : tY.rd inn w [v6] s.proof.record) (k21 : (tL tHeader).rd inn w [v7] s.proof.headers) (k22 : (-9223372036854775808 ≤ s.proof.index ∧ s.proof.index ≤ 9223372036854775807)) (k23 : (-9223372036854775808 ≤ s.proof.count ∧ s.proof.count ≤ 9223372036854775807)) (k24 : (tL tI).rd inn w [v8] s.proof.path) (k25 : (-9223372036854775808 ≤ s.proof.cert.seq ∧ s.proof.cert.seq ≤ 9223372036854775807)) (k26 : (-9223372036854775808 ≤ s.proof.cert.digest ∧ s.proof.cert.digest ≤ 9223372036854775807)) (k27 : (tL tSign).rd inn w [v9] s.proof.cert.signs) (k28 : (-9223372036854775808 ≤ s.sign.key ∧ s.sign.key ≤ 9223372036854775807)) (k29 : (-9223372036854775808 ≤ s.sign.digest ∧ s.sign.digest ≤ 9223372036854775807)) : tMsg.rd inn w [.int .i64 s.kind, .int .i64 s.src, .int .i64 s.view, .int .i64 s.seq, .int .i64 s.digest, .int .i64 s.client, .int .i64 s.time, .int .i64 s.result.err, .int .i64 s.result.offset, v1, .int .i64 s.cert.seq, .int .i64 s.cert.digest, v2, v3, v4, v5, .string (bstr s.topic), .int .i64 s.offset, .string (bstr s.proof.topic), .int .i64 s.proof.offset, v6, v7, .int .i64 s.proof.index, .int .i64 s.proof.count, v8, .int .i64 s.proof.cert.seq, .int .i64 s.proof.cert.digest, v9, .int .i64 s.sign.key, .int .i64 s.sign.digest] s := by
  exact ⟨[.int .i64 s.kind], [.int .i64 s.src, .int .i64 s.view, .int .i64 s.seq, .int .i64 s.digest, .int .i64 s.client, .int .i64 s.time, .int .i64 s.result.err, .int .i64 s.result.offset, v1, .int .i64 s.cert.seq, .int .i64 s.cert.digest, v2, v3, v4, v5, .string (bstr s.topic), .int .i64 s.offset, .string (bstr s.proof.topic), .int .i64 s.proof.offset, v6, v7, .int .i64 s.proof.index, .int .i64 s.proof.count, v8, .int .i64 s.proof.cert.seq, .int .i64 s.proof.cert.digest, v9, .int .i64 s.sign.key, .int .i64 s.sign.digest], rfl, ⟨rfl, k0⟩, [.int .i64 s.src], [.int .i64 s.view, .int .i64 s.seq, .int .i64 s.digest, .int .i64 s.client, .int .i64 s.time, .int .i64 s.result.err, .int .i64 s.result.offset, v1, .int .i64 s.cert.seq, .int .i64 s.cert.digest, v2, v3, v4, v5, .string (bstr s.topic), .int .i64 s.offset, .string (bstr s.proof.topic), .int .i64 s.proof.offset, v6, v7, .int .i64 s.proof.index, .int .i64 s.proof.count, v8, .int .i64 s.proof.cert.seq, .int .i64 s.proof.cert.digest, v9, .int .i64 s.sign.key, .int .i64 s.sign.digest], rfl, ⟨rfl, k1⟩, [.int .i64 s.view], [.int .i64 s.seq, .int .i64 s.digest, .int .i64 s.client, .int .i64 s.time, .int .i64 s.result.err, .int .i64 s.result.offset, v1, .int .i64 s.cert.seq, .int .i64 s.cert.digest, v2, v3, v4, v5, .string (bstr s.topic), .int .i64 s.offset, .string (bstr s.proof.topic), .int .i64 s.proof.offset, v6, v7, .int .i64 s.proof.index, .int .i64 s.proof.count, v8, .int .i64 s.proof.cert.seq, .int .i64 s.proof.cert.digest, v9, .int .i64 s.sign.key, .int .i64 s.sign.digest], rfl, ⟨rfl, k2⟩, [.int .i64 s.seq], [.int .i64 s.digest, .int .i64 s.client, .int .i64 s.time, .int .i64 s.result.err, .int .i64 s.result.offset, v1, .int .i64 s.cert.seq, .int .i64 s.cert.digest, v2, v3, v4, v5, .string (bstr s.topic), .int .i64 s.offset, .string (bstr s.proof.topic), .int .i64 s.proof.offset, v6, v7, .int .i64 s.proof.index, .int .i64 s.proof.count, v8, .int .i64 s.proof.cert.seq, .int .i64 s.proof.cert.digest, v9, .int .i64 s.sign.key, .int .i64 s.sign.digest], rfl, ⟨rfl, k3⟩, [.int .i64 s.digest], [.int .i64 s.client, .int .i64 s.time, .int .i64 s.result.err, .int .i64 s.result.offset, v1, .int .i64 s.cert.seq, .int .i64 s.cert.digest, v2, v3, v4, v5, .string (bstr s.topic), .int .i64 s.offset, .string (bstr s.proof.topic), .int .i64 s.proof.offset, v6, v7, .int .i64 s.proof.index, .int .i64 s.proof.count, v8, .int .i64 s.proof.cert.seq, .int .i64 s.proof.cert.digest, v9, .int .i64 s.sign.key, .int .i64 s.sign.digest], rfl, ⟨rfl, k4⟩, [.int .i64 s.client], [.int .i64 s.time, .int .i64 s.result.err, .int .i64 s.result.offset, v1, .int .i64 s.cert.seq, .int .i64 s.cert.digest, v2, v3, v4, v5, .string (bstr s.topic), .int .i64 s.offset, .string (bstr s.proof.topic), .int .i64 s.proof.offset, v6, v7, .int .i64 s.proof.index, .int .i64 s.proof.count, v8, .int .i64 s.proof.cert.seq, .int .i64 s.proof.cert.digest, v9, .int .i64 s.sign.key, .int .i64 s.sign.digest], rfl, ⟨rfl, k5⟩, [.int .i64 s.time], [.int .i64 s.result.err, .int .i64 s.result.offset, v1, .int .i64 s.cert.seq, .int .i64 s.cert.digest, v2, v3, v4, v5, .string (bstr s.topic), .int .i64 s.offset, .string (bstr s.proof.topic), .int .i64 s.proof.offset, v6, v7, .int .i64 s.proof.index, .int .i64 s.proof.count, v8, .int .i64 s.proof.cert.seq, .int .i64 s.proof.cert.digest, v9, .int .i64 s.sign.key, .int .i64 s.sign.digest], rfl, ⟨rfl, k6⟩, [.int .i64 s.result.err, .int .i64 s.result.offset], [v1, .int .i64 s.cert.seq, .int .i64 s.cert.digest, v2, v3, v4, v5, .string (bstr s.topic), .int .i64 s.offset, .string (bstr s.proof.topic), .int .i64 s.proof.offset, v6, v7, .int .i64 s.proof.index, .int .i64 s.proof.count, v8, .int .i64 s.proof.cert.seq, .int .i64 s.proof.cert.digest, v9, .int .i64 s.sign.key, .int .i64 s.sign.digest], rfl, tResult.mk k7 k8, [v1], [.int .i64 s.cert.seq, .int .i64 s.cert.digest, v2, v3, v4, v5, .string (bstr s.topic), .int .i64 s.offset, .string (bstr s.proof.topic), .int .i64 s.proof.offset, v6, v7, .int .i64 s.proof.index, .int .i64 s.proof.count, v8, .int .i64 s.proof.cert.seq, .int .i64 s.proof.cert.digest, v9, .int .i64 s.sign.key, .int .i64 s.sign.digest], rfl, k9, [.int .i64 s.cert.seq, .int .i64 s.cert.digest, v2], [v3, v4, v5, .string (bstr s.topic), .int .i64 s.offset, .string (bstr s.proof.topic), .int .i64 s.proof.offset, v6, v7, .int .i64 s.proof.index, .int .i64 s.proof.count, v8, .int .i64 s.proof.cert.seq, .int .i64 s.proof.cert.digest, v9, .int .i64 s.sign.key, .int .i64 s.sign.digest], rfl, tCert.mk k10 k11 k12, [v3], [v4, v5, .string (bstr s.topic), .int .i64 s.offset, .string (bstr s.proof.topic), .int .i64 s.proof.offset, v6, v7, .int .i64 s.proof.index, .int .i64 s.proof.count, v8, .int .i64 s.proof.cert.seq, .int .i64 s.proof.cert.digest, v9, .int .i64 s.sign.key, .int .i64 s.sign.digest], rfl, k13, [v4], [v5, .string (bstr s.topic), .int .i64 s.offset, .string (bstr s.proof.topic), .int .i64 s.proof.offset, v6, v7, .int .i64 s.proof.index, .int .i64 s.proof.count, v8, .int .i64 s.proof.cert.seq, .int .i64 s.proof.cert.digest, v9, .int .i64 s.sign.key, .int .i64 s.sign.digest], rfl, k14, [v5], [.string (bstr s.topic), .int .i64 s.offset, .string (bstr s.proof.topic), .int .i64 s.proof.offset, v6, v7, .int .i64 s.proof.index, .int .i64 s.proof.count, v8, .int .i64 s.proof.cert.seq, .int .i64 s.proof.cert.digest, v9, .int .i64 s.sign.key, .int .i64 s.sign.digest], rfl, k15, [.string (bstr s.topic)], [.int .i64 s.offset, .string (bstr s.proof.topic), .int .i64 s.proof.offset, v6, v7, .int .i64 s.proof.index, .int .i64 s.proof.count, v8, .int .i64 s.proof.cert.seq, .int .i64 s.proof.cert.digest, v9, .int .i64 s.sign.key, .int .i64 s.sign.digest], rfl, ⟨rfl, k16⟩, [.int .i64 s.offset], [.string (bstr s.proof.topic), .int .i64 s.proof.offset, v6, v7, .int .i64 s.proof.index, .int .i64 s.proof.count, v8, .int .i64 s.proof.cert.seq, .int .i64 s.proof.cert.digest, v9, .int .i64 s.sign.key, .int .i64 s.sign.digest], rfl, ⟨rfl, k17⟩, [.string (bstr s.proof.topic), .int .i64 s.proof.offset, v6, v7, .int .i64 s.proof.index, .int .i64 s.proof.count, v8, .int .i64 s.proof.cert.seq, .int .i64 s.proof.cert.digest, v9], [.int .i64 s.sign.key, .int .i64 s.sign.digest], rfl, tProof.mk k18 k19 k20 k21 k22 k23 k24 k25 k26 k27, tSign.mk k28 k29⟩
structure SetupD where
  f : Int
  faulty : Int
  liars : Int
  room : Int
  topic : List UInt8
def tSetup : Ty SetupD := tM (tP tI (tP tW (tP tW (tP tI tS)))) (fun s : SetupD => (s.f, s.faulty, s.liars, s.room, s.topic))
theorem open_Setup : Opens Tryz.prog 25 tSetup := by
  refine opensT (fun p => ⟨p.1, p.2.1, p.2.2.1, p.2.2.2.1, p.2.2.2.2⟩) (fun _ => rfl) Tryz.underlying25 ?_ (by kernel_rfl)
  simp only
  refine opensFc (o' := 1) rfl rfl ?_ ?_
  · exact opensI Tryz.underlying3 (by kernel_rfl)
  refine opensFc (o' := 2) rfl rfl ?_ ?_
  · exact opensW Tryz.underlying23 (by kernel_rfl)
  refine opensFc (o' := 3) rfl rfl ?_ ?_
  · exact opensW Tryz.underlying23 (by kernel_rfl)
  refine opensFc (o' := 4) rfl rfl ?_ ?_
  · exact opensI Tryz.underlying3 (by kernel_rfl)
  refine opensF1 rfl ?_
  exact opensS Tryz.underlying9 (by kernel_rfl)
theorem tSetup.parts {inn : Nat → Prop} {w : World} {cs : List Value} {s : SetupD} (h : tSetup.rd inn w cs s) : cs = [.int .i64 s.f, .int .u16 s.faulty, .int .u16 s.liars, .int .i64 s.room, .string (bstr s.topic)] ∧ (-9223372036854775808 ≤ s.f ∧ s.f ≤ 9223372036854775807) ∧ (0 ≤ s.faulty ∧ s.faulty ≤ 65535) ∧ (0 ≤ s.liars ∧ s.liars ≤ 65535) ∧ (-9223372036854775808 ≤ s.room ∧ s.room ≤ 9223372036854775807) ∧ s.topic.length ≤ 4194304 := by
  obtain ⟨c0, e1, rfl, h0, c1, e2, rfl, h1, c2, e3, rfl, h2, c3, c4, rfl, h3, h4⟩ := h
  obtain ⟨rfl, b0⟩ := h0
  obtain ⟨rfl, b1⟩ := h1
  obtain ⟨rfl, b2⟩ := h2
  obtain ⟨rfl, b3⟩ := h3
  obtain ⟨rfl, b4⟩ := h4
  exact ⟨rfl, b0, b1, b2, b3, b4⟩
theorem tSetup.mk {inn : Nat → Prop} {w : World} {s : SetupD} (k0 : (-9223372036854775808 ≤ s.f ∧ s.f ≤ 9223372036854775807)) (k1 : (0 ≤ s.faulty ∧ s.faulty ≤ 65535)) (k2 : (0 ≤ s.liars ∧ s.liars ≤ 65535)) (k3 : (-9223372036854775808 ≤ s.room ∧ s.room ≤ 9223372036854775807)) (k4 : s.topic.length ≤ 4194304) : tSetup.rd inn w [.int .i64 s.f, .int .u16 s.faulty, .int .u16 s.liars, .int .i64 s.room, .string (bstr s.topic)] s := by
  exact ⟨[.int .i64 s.f], [.int .u16 s.faulty, .int .u16 s.liars, .int .i64 s.room, .string (bstr s.topic)], rfl, ⟨rfl, k0⟩, [.int .u16 s.faulty], [.int .u16 s.liars, .int .i64 s.room, .string (bstr s.topic)], rfl, ⟨rfl, k1⟩, [.int .u16 s.liars], [.int .i64 s.room, .string (bstr s.topic)], rfl, ⟨rfl, k2⟩, [.int .i64 s.room], [.string (bstr s.topic)], rfl, ⟨rfl, k3⟩, ⟨rfl, k4⟩⟩
structure ActD where
  kind : Int
  who : Int
  num : Int
  op : OpD
  bytes : List UInt8
  msg : MsgD
  sealed : Bool
def tAct : Ty ActD := tM (tP tI (tP tI (tP tI (tP tOp (tP tY (tP tMsg tB)))))) (fun s : ActD => (s.kind, s.who, s.num, s.op, s.bytes, s.msg, s.sealed))
theorem open_Act : Opens Tryz.prog 58 tAct := by
  refine opensT (fun p => ⟨p.1, p.2.1, p.2.2.1, p.2.2.2.1, p.2.2.2.2.1, p.2.2.2.2.2.1, p.2.2.2.2.2.2⟩) (fun _ => rfl) Tryz.underlying58 ?_ (by kernel_rfl)
  simp only
  refine opensFc (o' := 1) rfl rfl ?_ ?_
  · exact opensI Tryz.underlying3 (by kernel_rfl)
  refine opensFc (o' := 2) rfl rfl ?_ ?_
  · exact opensI Tryz.underlying3 (by kernel_rfl)
  refine opensFc (o' := 3) rfl rfl ?_ ?_
  · exact opensI Tryz.underlying3 (by kernel_rfl)
  refine opensFc (o' := 8) rfl rfl ?_ ?_
  · exact open_Op
  refine opensFc (o' := 9) rfl rfl ?_ ?_
  · exact opensY Tryz.underlying37 Tryz.underlying5 (by kernel_rfl) (by kernel_rfl)
  refine opensFc (o' := 39) rfl rfl ?_ ?_
  · exact open_Msg
  refine opensF1 rfl ?_
  exact opensB Tryz.underlying4 (by kernel_rfl)
theorem tAct.parts {inn : Nat → Prop} {w : World} {cs : List Value} {s : ActD} (h : tAct.rd inn w cs s) : ∃ v1 v2 v3 v4 v5 v6 v7 v8 v9 v10 v11, cs = [.int .i64 s.kind, .int .i64 s.who, .int .i64 s.num, .int .i64 s.op.kind, .string (bstr s.op.topic), .string (bstr s.op.group), .int .i64 s.op.offset, v1, v2, .int .i64 s.msg.kind, .int .i64 s.msg.src, .int .i64 s.msg.view, .int .i64 s.msg.seq, .int .i64 s.msg.digest, .int .i64 s.msg.client, .int .i64 s.msg.time, .int .i64 s.msg.result.err, .int .i64 s.msg.result.offset, v3, .int .i64 s.msg.cert.seq, .int .i64 s.msg.cert.digest, v4, v5, v6, v7, .string (bstr s.msg.topic), .int .i64 s.msg.offset, .string (bstr s.msg.proof.topic), .int .i64 s.msg.proof.offset, v8, v9, .int .i64 s.msg.proof.index, .int .i64 s.msg.proof.count, v10, .int .i64 s.msg.proof.cert.seq, .int .i64 s.msg.proof.cert.digest, v11, .int .i64 s.msg.sign.key, .int .i64 s.msg.sign.digest, .bool s.sealed] ∧ (-9223372036854775808 ≤ s.kind ∧ s.kind ≤ 9223372036854775807) ∧ (-9223372036854775808 ≤ s.who ∧ s.who ≤ 9223372036854775807) ∧ (-9223372036854775808 ≤ s.num ∧ s.num ≤ 9223372036854775807) ∧ (-9223372036854775808 ≤ s.op.kind ∧ s.op.kind ≤ 9223372036854775807) ∧ s.op.topic.length ≤ 4194304 ∧ s.op.group.length ≤ 4194304 ∧ (-9223372036854775808 ≤ s.op.offset ∧ s.op.offset ≤ 9223372036854775807) ∧ (tL tY).rd inn w [v1] s.op.records ∧ tY.rd inn w [v2] s.bytes ∧ (-9223372036854775808 ≤ s.msg.kind ∧ s.msg.kind ≤ 9223372036854775807) ∧ (-9223372036854775808 ≤ s.msg.src ∧ s.msg.src ≤ 9223372036854775807) ∧ (-9223372036854775808 ≤ s.msg.view ∧ s.msg.view ≤ 9223372036854775807) ∧ (-9223372036854775808 ≤ s.msg.seq ∧ s.msg.seq ≤ 9223372036854775807) ∧ (-9223372036854775808 ≤ s.msg.digest ∧ s.msg.digest ≤ 9223372036854775807) ∧ (-9223372036854775808 ≤ s.msg.client ∧ s.msg.client ≤ 9223372036854775807) ∧ (-9223372036854775808 ≤ s.msg.time ∧ s.msg.time ≤ 9223372036854775807) ∧ (-9223372036854775808 ≤ s.msg.result.err ∧ s.msg.result.err ≤ 9223372036854775807) ∧ (-9223372036854775808 ≤ s.msg.result.offset ∧ s.msg.result.offset ≤ 9223372036854775807) ∧ (tL tSigned).rd inn w [v3] s.msg.batch ∧ (-9223372036854775808 ≤ s.msg.cert.seq ∧ s.msg.cert.seq ≤ 9223372036854775807) ∧ (-9223372036854775808 ≤ s.msg.cert.digest ∧ s.msg.cert.digest ≤ 9223372036854775807) ∧ (tL tSign).rd inn w [v4] s.msg.cert.signs ∧ (tL tChange).rd inn w [v5] s.msg.changes ∧ (tL tEntry).rd inn w [v6] s.msg.entries ∧ tY.rd inn w [v7] s.msg.state ∧ s.msg.topic.length ≤ 4194304 ∧ (-9223372036854775808 ≤ s.msg.offset ∧ s.msg.offset ≤ 9223372036854775807) ∧ s.msg.proof.topic.length ≤ 4194304 ∧ (-9223372036854775808 ≤ s.msg.proof.offset ∧ s.msg.proof.offset ≤ 9223372036854775807) ∧ tY.rd inn w [v8] s.msg.proof.record ∧ (tL tHeader).rd inn w [v9] s.msg.proof.headers ∧ (-9223372036854775808 ≤ s.msg.proof.index ∧ s.msg.proof.index ≤ 9223372036854775807) ∧ (-9223372036854775808 ≤ s.msg.proof.count ∧ s.msg.proof.count ≤ 9223372036854775807) ∧ (tL tI).rd inn w [v10] s.msg.proof.path ∧ (-9223372036854775808 ≤ s.msg.proof.cert.seq ∧ s.msg.proof.cert.seq ≤ 9223372036854775807) ∧ (-9223372036854775808 ≤ s.msg.proof.cert.digest ∧ s.msg.proof.cert.digest ≤ 9223372036854775807) ∧ (tL tSign).rd inn w [v11] s.msg.proof.cert.signs ∧ (-9223372036854775808 ≤ s.msg.sign.key ∧ s.msg.sign.key ≤ 9223372036854775807) ∧ (-9223372036854775808 ≤ s.msg.sign.digest ∧ s.msg.sign.digest ≤ 9223372036854775807) := by
  obtain ⟨c0, e1, rfl, h0, c1, e2, rfl, h1, c2, e3, rfl, h2, c3, e4, rfl, h3, c4, e5, rfl, h4, c5, c6, rfl, h5, h6⟩ := h
  obtain ⟨rfl, b0⟩ := h0
  obtain ⟨rfl, b1⟩ := h1
  obtain ⟨rfl, b2⟩ := h2
  obtain ⟨u3_0, rfl, f3_0, f3_1, f3_2, f3_3, f3_4⟩ := tOp.parts h3
  obtain ⟨u4, rfl⟩ := len1 (tY.len h4)
  obtain ⟨u5_0, u5_1, u5_2, u5_3, u5_4, u5_5, u5_6, u5_7, u5_8, rfl, f5_0, f5_1, f5_2, f5_3, f5_4, f5_5, f5_6, f5_7, f5_8, f5_9, f5_10, f5_11, f5_12, f5_13, f5_14, f5_15, f5_16, f5_17, f5_18, f5_19, f5_20, f5_21, f5_22, f5_23, f5_24, f5_25, f5_26, f5_27, f5_28, f5_29⟩ := tMsg.parts h5
  obtain rfl : c6 = [.bool s.sealed] := h6
  exact ⟨u3_0, u4, u5_0, u5_1, u5_2, u5_3, u5_4, u5_5, u5_6, u5_7, u5_8, rfl, b0, b1, b2, f3_0, f3_1, f3_2, f3_3, f3_4, h4, f5_0, f5_1, f5_2, f5_3, f5_4, f5_5, f5_6, f5_7, f5_8, f5_9, f5_10, f5_11, f5_12, f5_13, f5_14, f5_15, f5_16, f5_17, f5_18, f5_19, f5_20, f5_21, f5_22, f5_23, f5_24, f5_25, f5_26, f5_27, f5_28, f5_29⟩
theorem tAct.mk {inn : Nat → Prop} {w : World} {s : ActD} {v1 v2 v3 v4 v5 v6 v7 v8 v9 v10 v11 : Value} (k0 : (-9223372036854775808 ≤ s.kind ∧ s.kind ≤ 9223372036854775807)) (k1 : (-9223372036854775808 ≤ s.who ∧ s.who ≤ 9223372036854775807)) (k2 : (-9223372036854775808 ≤ s.num ∧ s.num ≤ 9223372036854775807)) (k3 : (-9223372036854775808 ≤ s.op.kind ∧ s.op.kind ≤ 9223372036854775807)) (k4 : s.op.topic.length ≤ 4194304) (k5 : s.op.group.length ≤ 4194304) (k6 : (-9223372036854775808 ≤ s.op.offset ∧ s.op.offset ≤ 9223372036854775807)) (k7 : (tL tY).rd inn w [v1] s.op.records) (k8 : tY.rd inn w [v2] s.bytes) (k9 : (-9223372036854775808 ≤ s.msg.kind ∧ s.msg.kind ≤ 9223372036854775807)) (k10 : (-9223372036854775808 ≤ s.msg.src ∧ s.msg.src ≤ 9223372036854775807)) (k11 : (-9223372036854775808 ≤ s.msg.view ∧ s.msg.view ≤ 9223372036854775807)) (k12 : (-9223372036854775808 ≤ s.msg.seq ∧ s.msg.seq ≤ 9223372036854775807)) (k13 : (-9223372036854775808 ≤ s.msg.digest ∧ s.msg.digest ≤ 9223372036854775807)) (k14 : (-9223372036854775808 ≤ s.msg.client ∧ s.msg.client ≤ 9223372036854775807)) (k15 : (-9223372036854775808 ≤ s.msg.time ∧ s.msg.time ≤ 9223372036854775807)) (k16 : (-9223372036854775808 ≤ s.msg.result.err ∧ s.msg.result.err ≤ 9223372036854775807)) (k17 : (-9223372036854775808 ≤ s.msg.result.offset ∧ s.msg.result.offset ≤ 9223372036854775807)) (k18 : (tL tSigned).rd inn w [v3] s.msg.batch) (k19 : (-9223372036854775808 ≤ s.msg.cert.seq ∧ s.msg.cert.seq ≤ 9223372036854775807)) (k20 : (-9223372036854775808 ≤ s.msg.cert.digest ∧ s.msg.cert.digest ≤ 9223372036854775807)) (k21 : (tL tSign).rd inn w [v4] s.msg.cert.signs) (k22 : (tL tChange).rd inn w [v5] s.msg.changes) (k23 : (tL tEntry).rd inn w [v6] s.msg.entries) (k24 : tY.rd inn w [v7] s.msg.state) (k25 : s.msg.topic.length ≤ 4194304) (k26 : (-9223372036854775808 ≤ s.msg.offset ∧ s.msg.offset ≤ 9223372036854775807)) (k27 : s.msg.proof.topic.length ≤ 4194304) (k28 : (-9223372036854775808 ≤ s.msg.proof.offset ∧ s.msg.proof.offset ≤ 9223372036854775807)) (k29 : tY.rd inn w [v8] s.msg.proof.record) (k30 : (tL tHeader).rd inn w [v9] s.msg.proof.headers) (k31 : (-9223372036854775808 ≤ s.msg.proof.index ∧ s.msg.proof.index ≤ 9223372036854775807)) (k32 : (-9223372036854775808 ≤ s.msg.proof.count ∧ s.msg.proof.count ≤ 9223372036854775807)) (k33 : (tL tI).rd inn w [v10] s.msg.proof.path) (k34 : (-9223372036854775808 ≤ s.msg.proof.cert.seq ∧ s.msg.proof.cert.seq ≤ 9223372036854775807)) (k35 : (-9223372036854775808 ≤ s.msg.proof.cert.digest ∧ s.msg.proof.cert.digest ≤ 9223372036854775807)) (k36 : (tL tSign).rd inn w [v11] s.msg.proof.cert.signs) (k37 : (-9223372036854775808 ≤ s.msg.sign.key ∧ s.msg.sign.key ≤ 9223372036854775807)) (k38 : (-9223372036854775808 ≤ s.msg.sign.digest ∧ s.msg.sign.digest ≤ 9223372036854775807)) : tAct.rd inn w [.int .i64 s.kind, .int .i64 s.who, .int .i64 s.num, .int .i64 s.op.kind, .string (bstr s.op.topic), .string (bstr s.op.group), .int .i64 s.op.offset, v1, v2, .int .i64 s.msg.kind, .int .i64 s.msg.src, .int .i64 s.msg.view, .int .i64 s.msg.seq, .int .i64 s.msg.digest, .int .i64 s.msg.client, .int .i64 s.msg.time, .int .i64 s.msg.result.err, .int .i64 s.msg.result.offset, v3, .int .i64 s.msg.cert.seq, .int .i64 s.msg.cert.digest, v4, v5, v6, v7, .string (bstr s.msg.topic), .int .i64 s.msg.offset, .string (bstr s.msg.proof.topic), .int .i64 s.msg.proof.offset, v8, v9, .int .i64 s.msg.proof.index, .int .i64 s.msg.proof.count, v10, .int .i64 s.msg.proof.cert.seq, .int .i64 s.msg.proof.cert.digest, v11, .int .i64 s.msg.sign.key, .int .i64 s.msg.sign.digest, .bool s.sealed] s := by
  exact ⟨[.int .i64 s.kind], [.int .i64 s.who, .int .i64 s.num, .int .i64 s.op.kind, .string (bstr s.op.topic), .string (bstr s.op.group), .int .i64 s.op.offset, v1, v2, .int .i64 s.msg.kind, .int .i64 s.msg.src, .int .i64 s.msg.view, .int .i64 s.msg.seq, .int .i64 s.msg.digest, .int .i64 s.msg.client, .int .i64 s.msg.time, .int .i64 s.msg.result.err, .int .i64 s.msg.result.offset, v3, .int .i64 s.msg.cert.seq, .int .i64 s.msg.cert.digest, v4, v5, v6, v7, .string (bstr s.msg.topic), .int .i64 s.msg.offset, .string (bstr s.msg.proof.topic), .int .i64 s.msg.proof.offset, v8, v9, .int .i64 s.msg.proof.index, .int .i64 s.msg.proof.count, v10, .int .i64 s.msg.proof.cert.seq, .int .i64 s.msg.proof.cert.digest, v11, .int .i64 s.msg.sign.key, .int .i64 s.msg.sign.digest, .bool s.sealed], rfl, ⟨rfl, k0⟩, [.int .i64 s.who], [.int .i64 s.num, .int .i64 s.op.kind, .string (bstr s.op.topic), .string (bstr s.op.group), .int .i64 s.op.offset, v1, v2, .int .i64 s.msg.kind, .int .i64 s.msg.src, .int .i64 s.msg.view, .int .i64 s.msg.seq, .int .i64 s.msg.digest, .int .i64 s.msg.client, .int .i64 s.msg.time, .int .i64 s.msg.result.err, .int .i64 s.msg.result.offset, v3, .int .i64 s.msg.cert.seq, .int .i64 s.msg.cert.digest, v4, v5, v6, v7, .string (bstr s.msg.topic), .int .i64 s.msg.offset, .string (bstr s.msg.proof.topic), .int .i64 s.msg.proof.offset, v8, v9, .int .i64 s.msg.proof.index, .int .i64 s.msg.proof.count, v10, .int .i64 s.msg.proof.cert.seq, .int .i64 s.msg.proof.cert.digest, v11, .int .i64 s.msg.sign.key, .int .i64 s.msg.sign.digest, .bool s.sealed], rfl, ⟨rfl, k1⟩, [.int .i64 s.num], [.int .i64 s.op.kind, .string (bstr s.op.topic), .string (bstr s.op.group), .int .i64 s.op.offset, v1, v2, .int .i64 s.msg.kind, .int .i64 s.msg.src, .int .i64 s.msg.view, .int .i64 s.msg.seq, .int .i64 s.msg.digest, .int .i64 s.msg.client, .int .i64 s.msg.time, .int .i64 s.msg.result.err, .int .i64 s.msg.result.offset, v3, .int .i64 s.msg.cert.seq, .int .i64 s.msg.cert.digest, v4, v5, v6, v7, .string (bstr s.msg.topic), .int .i64 s.msg.offset, .string (bstr s.msg.proof.topic), .int .i64 s.msg.proof.offset, v8, v9, .int .i64 s.msg.proof.index, .int .i64 s.msg.proof.count, v10, .int .i64 s.msg.proof.cert.seq, .int .i64 s.msg.proof.cert.digest, v11, .int .i64 s.msg.sign.key, .int .i64 s.msg.sign.digest, .bool s.sealed], rfl, ⟨rfl, k2⟩, [.int .i64 s.op.kind, .string (bstr s.op.topic), .string (bstr s.op.group), .int .i64 s.op.offset, v1], [v2, .int .i64 s.msg.kind, .int .i64 s.msg.src, .int .i64 s.msg.view, .int .i64 s.msg.seq, .int .i64 s.msg.digest, .int .i64 s.msg.client, .int .i64 s.msg.time, .int .i64 s.msg.result.err, .int .i64 s.msg.result.offset, v3, .int .i64 s.msg.cert.seq, .int .i64 s.msg.cert.digest, v4, v5, v6, v7, .string (bstr s.msg.topic), .int .i64 s.msg.offset, .string (bstr s.msg.proof.topic), .int .i64 s.msg.proof.offset, v8, v9, .int .i64 s.msg.proof.index, .int .i64 s.msg.proof.count, v10, .int .i64 s.msg.proof.cert.seq, .int .i64 s.msg.proof.cert.digest, v11, .int .i64 s.msg.sign.key, .int .i64 s.msg.sign.digest, .bool s.sealed], rfl, tOp.mk k3 k4 k5 k6 k7, [v2], [.int .i64 s.msg.kind, .int .i64 s.msg.src, .int .i64 s.msg.view, .int .i64 s.msg.seq, .int .i64 s.msg.digest, .int .i64 s.msg.client, .int .i64 s.msg.time, .int .i64 s.msg.result.err, .int .i64 s.msg.result.offset, v3, .int .i64 s.msg.cert.seq, .int .i64 s.msg.cert.digest, v4, v5, v6, v7, .string (bstr s.msg.topic), .int .i64 s.msg.offset, .string (bstr s.msg.proof.topic), .int .i64 s.msg.proof.offset, v8, v9, .int .i64 s.msg.proof.index, .int .i64 s.msg.proof.count, v10, .int .i64 s.msg.proof.cert.seq, .int .i64 s.msg.proof.cert.digest, v11, .int .i64 s.msg.sign.key, .int .i64 s.msg.sign.digest, .bool s.sealed], rfl, k8, [.int .i64 s.msg.kind, .int .i64 s.msg.src, .int .i64 s.msg.view, .int .i64 s.msg.seq, .int .i64 s.msg.digest, .int .i64 s.msg.client, .int .i64 s.msg.time, .int .i64 s.msg.result.err, .int .i64 s.msg.result.offset, v3, .int .i64 s.msg.cert.seq, .int .i64 s.msg.cert.digest, v4, v5, v6, v7, .string (bstr s.msg.topic), .int .i64 s.msg.offset, .string (bstr s.msg.proof.topic), .int .i64 s.msg.proof.offset, v8, v9, .int .i64 s.msg.proof.index, .int .i64 s.msg.proof.count, v10, .int .i64 s.msg.proof.cert.seq, .int .i64 s.msg.proof.cert.digest, v11, .int .i64 s.msg.sign.key, .int .i64 s.msg.sign.digest], [.bool s.sealed], rfl, tMsg.mk k9 k10 k11 k12 k13 k14 k15 k16 k17 k18 k19 k20 k21 k22 k23 k24 k25 k26 k27 k28 k29 k30 k31 k32 k33 k34 k35 k36 k37 k38, rfl⟩
structure ScriptD where
  setup : SetupD
  acts : List (ActD)
def tScript : Ty ScriptD := tM (tP tSetup (tL tAct)) (fun s : ScriptD => (s.setup, s.acts))
theorem open_Script : Opens Tryz.prog 28 tScript := by
  refine opensT (fun p => ⟨p.1, p.2⟩) (fun _ => rfl) Tryz.underlying28 ?_ (by kernel_rfl)
  simp only
  refine opensFc (o' := 5) rfl rfl ?_ ?_
  · exact open_Setup
  refine opensF1 rfl ?_
  refine opensL Tryz.underlying26 ?_ (by decide) (by kernel_rfl)
  exact open_Act
theorem tScript.parts {inn : Nat → Prop} {w : World} {cs : List Value} {s : ScriptD} (h : tScript.rd inn w cs s) : ∃ v1, cs = [.int .i64 s.setup.f, .int .u16 s.setup.faulty, .int .u16 s.setup.liars, .int .i64 s.setup.room, .string (bstr s.setup.topic), v1] ∧ (-9223372036854775808 ≤ s.setup.f ∧ s.setup.f ≤ 9223372036854775807) ∧ (0 ≤ s.setup.faulty ∧ s.setup.faulty ≤ 65535) ∧ (0 ≤ s.setup.liars ∧ s.setup.liars ≤ 65535) ∧ (-9223372036854775808 ≤ s.setup.room ∧ s.setup.room ≤ 9223372036854775807) ∧ s.setup.topic.length ≤ 4194304 ∧ (tL tAct).rd inn w [v1] s.acts := by
  obtain ⟨c0, c1, rfl, h0, h1⟩ := h
  obtain ⟨rfl, f0_0, f0_1, f0_2, f0_3, f0_4⟩ := tSetup.parts h0
  obtain ⟨u1, rfl⟩ := len1 ((tL tAct).len h1)
  exact ⟨u1, rfl, f0_0, f0_1, f0_2, f0_3, f0_4, h1⟩
theorem tScript.mk {inn : Nat → Prop} {w : World} {s : ScriptD} {v1 : Value} (k0 : (-9223372036854775808 ≤ s.setup.f ∧ s.setup.f ≤ 9223372036854775807)) (k1 : (0 ≤ s.setup.faulty ∧ s.setup.faulty ≤ 65535)) (k2 : (0 ≤ s.setup.liars ∧ s.setup.liars ≤ 65535)) (k3 : (-9223372036854775808 ≤ s.setup.room ∧ s.setup.room ≤ 9223372036854775807)) (k4 : s.setup.topic.length ≤ 4194304) (k5 : (tL tAct).rd inn w [v1] s.acts) : tScript.rd inn w [.int .i64 s.setup.f, .int .u16 s.setup.faulty, .int .u16 s.setup.liars, .int .i64 s.setup.room, .string (bstr s.setup.topic), v1] s := by
  exact ⟨[.int .i64 s.setup.f, .int .u16 s.setup.faulty, .int .u16 s.setup.liars, .int .i64 s.setup.room, .string (bstr s.setup.topic)], [v1], rfl, tSetup.mk k0 k1 k2 k3 k4, k5⟩
structure VoteD where
  seq : Int
  digest : Int
  sign : SignD
def tVote : Ty VoteD := tM (tP tI (tP tI tSign)) (fun s : VoteD => (s.seq, s.digest, s.sign))
theorem tVote.parts {inn : Nat → Prop} {w : World} {cs : List Value} {s : VoteD} (h : tVote.rd inn w cs s) : cs = [.int .i64 s.seq, .int .i64 s.digest, .int .i64 s.sign.key, .int .i64 s.sign.digest] ∧ (-9223372036854775808 ≤ s.seq ∧ s.seq ≤ 9223372036854775807) ∧ (-9223372036854775808 ≤ s.digest ∧ s.digest ≤ 9223372036854775807) ∧ (-9223372036854775808 ≤ s.sign.key ∧ s.sign.key ≤ 9223372036854775807) ∧ (-9223372036854775808 ≤ s.sign.digest ∧ s.sign.digest ≤ 9223372036854775807) := by
  obtain ⟨c0, e1, rfl, h0, c1, c2, rfl, h1, h2⟩ := h
  obtain ⟨rfl, b0⟩ := h0
  obtain ⟨rfl, b1⟩ := h1
  obtain ⟨rfl, f2_0, f2_1⟩ := tSign.parts h2
  exact ⟨rfl, b0, b1, f2_0, f2_1⟩
theorem tVote.mk {inn : Nat → Prop} {w : World} {s : VoteD} (k0 : (-9223372036854775808 ≤ s.seq ∧ s.seq ≤ 9223372036854775807)) (k1 : (-9223372036854775808 ≤ s.digest ∧ s.digest ≤ 9223372036854775807)) (k2 : (-9223372036854775808 ≤ s.sign.key ∧ s.sign.key ≤ 9223372036854775807)) (k3 : (-9223372036854775808 ≤ s.sign.digest ∧ s.sign.digest ≤ 9223372036854775807)) : tVote.rd inn w [.int .i64 s.seq, .int .i64 s.digest, .int .i64 s.sign.key, .int .i64 s.sign.digest] s := by
  exact ⟨[.int .i64 s.seq], [.int .i64 s.digest, .int .i64 s.sign.key, .int .i64 s.sign.digest], rfl, ⟨rfl, k0⟩, [.int .i64 s.digest], [.int .i64 s.sign.key, .int .i64 s.sign.digest], rfl, ⟨rfl, k1⟩, tSign.mk k2 k3⟩
structure PlacedD where
  topic : List UInt8
  offset : Int
  record : List UInt8
def tPlaced : Ty PlacedD := tM (tP tS (tP tI tY)) (fun s : PlacedD => (s.topic, s.offset, s.record))
theorem tPlaced.parts {inn : Nat → Prop} {w : World} {cs : List Value} {s : PlacedD} (h : tPlaced.rd inn w cs s) : ∃ v1, cs = [.string (bstr s.topic), .int .i64 s.offset, v1] ∧ s.topic.length ≤ 4194304 ∧ (-9223372036854775808 ≤ s.offset ∧ s.offset ≤ 9223372036854775807) ∧ tY.rd inn w [v1] s.record := by
  obtain ⟨c0, e1, rfl, h0, c1, c2, rfl, h1, h2⟩ := h
  obtain ⟨rfl, b0⟩ := h0
  obtain ⟨rfl, b1⟩ := h1
  obtain ⟨u2, rfl⟩ := len1 (tY.len h2)
  exact ⟨u2, rfl, b0, b1, h2⟩
theorem tPlaced.mk {inn : Nat → Prop} {w : World} {s : PlacedD} {v1 : Value} (k0 : s.topic.length ≤ 4194304) (k1 : (-9223372036854775808 ≤ s.offset ∧ s.offset ≤ 9223372036854775807)) (k2 : tY.rd inn w [v1] s.record) : tPlaced.rd inn w [.string (bstr s.topic), .int .i64 s.offset, v1] s := by
  exact ⟨[.string (bstr s.topic)], [.int .i64 s.offset, v1], rfl, ⟨rfl, k0⟩, [.int .i64 s.offset], [v1], rfl, ⟨rfl, k1⟩, k2⟩
structure VoteOfD where
  digest : Int
  sign : SignD
def tVoteOf : Ty VoteOfD := tM (tP tI tSign) (fun s : VoteOfD => (s.digest, s.sign))
theorem tVoteOf.parts {inn : Nat → Prop} {w : World} {cs : List Value} {s : VoteOfD} (h : tVoteOf.rd inn w cs s) : cs = [.int .i64 s.digest, .int .i64 s.sign.key, .int .i64 s.sign.digest] ∧ (-9223372036854775808 ≤ s.digest ∧ s.digest ≤ 9223372036854775807) ∧ (-9223372036854775808 ≤ s.sign.key ∧ s.sign.key ≤ 9223372036854775807) ∧ (-9223372036854775808 ≤ s.sign.digest ∧ s.sign.digest ≤ 9223372036854775807) := by
  obtain ⟨c0, c1, rfl, h0, h1⟩ := h
  obtain ⟨rfl, b0⟩ := h0
  obtain ⟨rfl, f1_0, f1_1⟩ := tSign.parts h1
  exact ⟨rfl, b0, f1_0, f1_1⟩
theorem tVoteOf.mk {inn : Nat → Prop} {w : World} {s : VoteOfD} (k0 : (-9223372036854775808 ≤ s.digest ∧ s.digest ≤ 9223372036854775807)) (k1 : (-9223372036854775808 ≤ s.sign.key ∧ s.sign.key ≤ 9223372036854775807)) (k2 : (-9223372036854775808 ≤ s.sign.digest ∧ s.sign.digest ≤ 9223372036854775807)) : tVoteOf.rd inn w [.int .i64 s.digest, .int .i64 s.sign.key, .int .i64 s.sign.digest] s := by
  exact ⟨[.int .i64 s.digest], [.int .i64 s.sign.key, .int .i64 s.sign.digest], rfl, ⟨rfl, k0⟩, tSign.mk k1 k2⟩
structure SlotD where
  seq : Int
  has : Bool
  digest : Int
  firstS : SignD
  batch : List (SignedD)
  prepares : List (VoteOfD)
  commits : List (VoteOfD)
def tSlot : Ty SlotD := tM (tP tI (tP tB (tP tI (tP tSign (tP (tL tSigned) (tP (tL tVoteOf) (tL tVoteOf))))))) (fun s : SlotD => (s.seq, s.has, s.digest, s.firstS, s.batch, s.prepares, s.commits))
theorem tSlot.parts {inn : Nat → Prop} {w : World} {cs : List Value} {s : SlotD} (h : tSlot.rd inn w cs s) : ∃ v1 v2 v3, cs = [.int .i64 s.seq, .bool s.has, .int .i64 s.digest, .int .i64 s.firstS.key, .int .i64 s.firstS.digest, v1, v2, v3] ∧ (-9223372036854775808 ≤ s.seq ∧ s.seq ≤ 9223372036854775807) ∧ (-9223372036854775808 ≤ s.digest ∧ s.digest ≤ 9223372036854775807) ∧ (-9223372036854775808 ≤ s.firstS.key ∧ s.firstS.key ≤ 9223372036854775807) ∧ (-9223372036854775808 ≤ s.firstS.digest ∧ s.firstS.digest ≤ 9223372036854775807) ∧ (tL tSigned).rd inn w [v1] s.batch ∧ (tL tVoteOf).rd inn w [v2] s.prepares ∧ (tL tVoteOf).rd inn w [v3] s.commits := by
  obtain ⟨c0, e1, rfl, h0, c1, e2, rfl, h1, c2, e3, rfl, h2, c3, e4, rfl, h3, c4, e5, rfl, h4, c5, c6, rfl, h5, h6⟩ := h
  obtain ⟨rfl, b0⟩ := h0
  obtain rfl : c1 = [.bool s.has] := h1
  obtain ⟨rfl, b2⟩ := h2
  obtain ⟨rfl, f3_0, f3_1⟩ := tSign.parts h3
  obtain ⟨u4, rfl⟩ := len1 ((tL tSigned).len h4)
  obtain ⟨u5, rfl⟩ := len1 ((tL tVoteOf).len h5)
  obtain ⟨u6, rfl⟩ := len1 ((tL tVoteOf).len h6)
  exact ⟨u4, u5, u6, rfl, b0, b2, f3_0, f3_1, h4, h5, h6⟩
theorem tSlot.mk {inn : Nat → Prop} {w : World} {s : SlotD} {v1 v2 v3 : Value} (k0 : (-9223372036854775808 ≤ s.seq ∧ s.seq ≤ 9223372036854775807)) (k1 : (-9223372036854775808 ≤ s.digest ∧ s.digest ≤ 9223372036854775807)) (k2 : (-9223372036854775808 ≤ s.firstS.key ∧ s.firstS.key ≤ 9223372036854775807)) (k3 : (-9223372036854775808 ≤ s.firstS.digest ∧ s.firstS.digest ≤ 9223372036854775807)) (k4 : (tL tSigned).rd inn w [v1] s.batch) (k5 : (tL tVoteOf).rd inn w [v2] s.prepares) (k6 : (tL tVoteOf).rd inn w [v3] s.commits) : tSlot.rd inn w [.int .i64 s.seq, .bool s.has, .int .i64 s.digest, .int .i64 s.firstS.key, .int .i64 s.firstS.digest, v1, v2, v3] s := by
  exact ⟨[.int .i64 s.seq], [.bool s.has, .int .i64 s.digest, .int .i64 s.firstS.key, .int .i64 s.firstS.digest, v1, v2, v3], rfl, ⟨rfl, k0⟩, [.bool s.has], [.int .i64 s.digest, .int .i64 s.firstS.key, .int .i64 s.firstS.digest, v1, v2, v3], rfl, rfl, [.int .i64 s.digest], [.int .i64 s.firstS.key, .int .i64 s.firstS.digest, v1, v2, v3], rfl, ⟨rfl, k1⟩, [.int .i64 s.firstS.key, .int .i64 s.firstS.digest], [v1, v2, v3], rfl, tSign.mk k2 k3, [v1], [v2, v3], rfl, k4, [v2], [v3], rfl, k5, k6⟩
structure PointsD where
  stable : CertD
  votes : List (VoteD)
  certs : List (CertD)
def tPoints : Ty PointsD := tM (tP tCert (tP (tL tVote) (tL tCert))) (fun s : PointsD => (s.stable, s.votes, s.certs))
theorem tPoints.parts {inn : Nat → Prop} {w : World} {cs : List Value} {s : PointsD} (h : tPoints.rd inn w cs s) : ∃ v1 v2 v3, cs = [.int .i64 s.stable.seq, .int .i64 s.stable.digest, v1, v2, v3] ∧ (-9223372036854775808 ≤ s.stable.seq ∧ s.stable.seq ≤ 9223372036854775807) ∧ (-9223372036854775808 ≤ s.stable.digest ∧ s.stable.digest ≤ 9223372036854775807) ∧ (tL tSign).rd inn w [v1] s.stable.signs ∧ (tL tVote).rd inn w [v2] s.votes ∧ (tL tCert).rd inn w [v3] s.certs := by
  obtain ⟨c0, e1, rfl, h0, c1, c2, rfl, h1, h2⟩ := h
  obtain ⟨u0_0, rfl, f0_0, f0_1, f0_2⟩ := tCert.parts h0
  obtain ⟨u1, rfl⟩ := len1 ((tL tVote).len h1)
  obtain ⟨u2, rfl⟩ := len1 ((tL tCert).len h2)
  exact ⟨u0_0, u1, u2, rfl, f0_0, f0_1, f0_2, h1, h2⟩
theorem tPoints.mk {inn : Nat → Prop} {w : World} {s : PointsD} {v1 v2 v3 : Value} (k0 : (-9223372036854775808 ≤ s.stable.seq ∧ s.stable.seq ≤ 9223372036854775807)) (k1 : (-9223372036854775808 ≤ s.stable.digest ∧ s.stable.digest ≤ 9223372036854775807)) (k2 : (tL tSign).rd inn w [v1] s.stable.signs) (k3 : (tL tVote).rd inn w [v2] s.votes) (k4 : (tL tCert).rd inn w [v3] s.certs) : tPoints.rd inn w [.int .i64 s.stable.seq, .int .i64 s.stable.digest, v1, v2, v3] s := by
  exact ⟨[.int .i64 s.stable.seq, .int .i64 s.stable.digest, v1], [v2, v3], rfl, tCert.mk k0 k1 k2, [v2], [v3], rfl, k3, k4⟩
structure PoolD where
  waiting : List (SignedD)
def tPool : Ty PoolD := tM (tL tSigned) (fun s : PoolD => s.waiting)
theorem tPool.parts {inn : Nat → Prop} {w : World} {cs : List Value} {s : PoolD} (h : tPool.rd inn w cs s) : ∃ v1, cs = [v1] ∧ (tL tSigned).rd inn w [v1] s.waiting := by
  have h0 : (tL tSigned).rd inn w cs s.waiting := h
  obtain ⟨u0, rfl⟩ := len1 ((tL tSigned).len h0)
  exact ⟨u0, rfl, h0⟩
theorem tPool.mk {inn : Nat → Prop} {w : World} {s : PoolD} {v1 : Value} (k0 : (tL tSigned).rd inn w [v1] s.waiting) : tPool.rd inn w [v1] s := by
  exact k0
structure TimerD where
  length : Int
  left : Int
def tTimer : Ty TimerD := tM (tP tI tI) (fun s : TimerD => (s.length, s.left))
theorem tTimer.parts {inn : Nat → Prop} {w : World} {cs : List Value} {s : TimerD} (h : tTimer.rd inn w cs s) : cs = [.int .i64 s.length, .int .i64 s.left] ∧ (-9223372036854775808 ≤ s.length ∧ s.length ≤ 9223372036854775807) ∧ (-9223372036854775808 ≤ s.left ∧ s.left ≤ 9223372036854775807) := by
  obtain ⟨c0, c1, rfl, h0, h1⟩ := h
  obtain ⟨rfl, b0⟩ := h0
  obtain ⟨rfl, b1⟩ := h1
  exact ⟨rfl, b0, b1⟩
theorem tTimer.mk {inn : Nat → Prop} {w : World} {s : TimerD} (k0 : (-9223372036854775808 ≤ s.length ∧ s.length ≤ 9223372036854775807)) (k1 : (-9223372036854775808 ≤ s.left ∧ s.left ≤ 9223372036854775807)) : tTimer.rd inn w [.int .i64 s.length, .int .i64 s.left] s := by
  exact ⟨[.int .i64 s.length], [.int .i64 s.left], rfl, ⟨rfl, k0⟩, ⟨rfl, k1⟩⟩
structure BlockD where
  header : HeaderD
  batch : List (SignedD)
  placed : List (PlacedD)
def tBlock : Ty BlockD := tM (tP tHeader (tP (tL tSigned) (tL tPlaced))) (fun s : BlockD => (s.header, s.batch, s.placed))
theorem tBlock.parts {inn : Nat → Prop} {w : World} {cs : List Value} {s : BlockD} (h : tBlock.rd inn w cs s) : ∃ v1 v2, cs = [.int .i64 s.header.seq, .int .i64 s.header.prev, .int .i64 s.header.batch, .int .i64 s.header.root, .int .i64 s.header.state, v1, v2] ∧ (-9223372036854775808 ≤ s.header.seq ∧ s.header.seq ≤ 9223372036854775807) ∧ (-9223372036854775808 ≤ s.header.prev ∧ s.header.prev ≤ 9223372036854775807) ∧ (-9223372036854775808 ≤ s.header.batch ∧ s.header.batch ≤ 9223372036854775807) ∧ (-9223372036854775808 ≤ s.header.root ∧ s.header.root ≤ 9223372036854775807) ∧ (-9223372036854775808 ≤ s.header.state ∧ s.header.state ≤ 9223372036854775807) ∧ (tL tSigned).rd inn w [v1] s.batch ∧ (tL tPlaced).rd inn w [v2] s.placed := by
  obtain ⟨c0, e1, rfl, h0, c1, c2, rfl, h1, h2⟩ := h
  obtain ⟨rfl, f0_0, f0_1, f0_2, f0_3, f0_4⟩ := tHeader.parts h0
  obtain ⟨u1, rfl⟩ := len1 ((tL tSigned).len h1)
  obtain ⟨u2, rfl⟩ := len1 ((tL tPlaced).len h2)
  exact ⟨u1, u2, rfl, f0_0, f0_1, f0_2, f0_3, f0_4, h1, h2⟩
theorem tBlock.mk {inn : Nat → Prop} {w : World} {s : BlockD} {v1 v2 : Value} (k0 : (-9223372036854775808 ≤ s.header.seq ∧ s.header.seq ≤ 9223372036854775807)) (k1 : (-9223372036854775808 ≤ s.header.prev ∧ s.header.prev ≤ 9223372036854775807)) (k2 : (-9223372036854775808 ≤ s.header.batch ∧ s.header.batch ≤ 9223372036854775807)) (k3 : (-9223372036854775808 ≤ s.header.root ∧ s.header.root ≤ 9223372036854775807)) (k4 : (-9223372036854775808 ≤ s.header.state ∧ s.header.state ≤ 9223372036854775807)) (k5 : (tL tSigned).rd inn w [v1] s.batch) (k6 : (tL tPlaced).rd inn w [v2] s.placed) : tBlock.rd inn w [.int .i64 s.header.seq, .int .i64 s.header.prev, .int .i64 s.header.batch, .int .i64 s.header.root, .int .i64 s.header.state, v1, v2] s := by
  exact ⟨[.int .i64 s.header.seq, .int .i64 s.header.prev, .int .i64 s.header.batch, .int .i64 s.header.root, .int .i64 s.header.state], [v1, v2], rfl, tHeader.mk k0 k1 k2 k3 k4, [v1], [v2], rfl, k5, k6⟩
structure MarkD where
  header : HeaderD
  topics : List UInt8
def tMark : Ty MarkD := tM (tP tHeader tY) (fun s : MarkD => (s.header, s.topics))
theorem tMark.parts {inn : Nat → Prop} {w : World} {cs : List Value} {s : MarkD} (h : tMark.rd inn w cs s) : ∃ v1, cs = [.int .i64 s.header.seq, .int .i64 s.header.prev, .int .i64 s.header.batch, .int .i64 s.header.root, .int .i64 s.header.state, v1] ∧ (-9223372036854775808 ≤ s.header.seq ∧ s.header.seq ≤ 9223372036854775807) ∧ (-9223372036854775808 ≤ s.header.prev ∧ s.header.prev ≤ 9223372036854775807) ∧ (-9223372036854775808 ≤ s.header.batch ∧ s.header.batch ≤ 9223372036854775807) ∧ (-9223372036854775808 ≤ s.header.root ∧ s.header.root ≤ 9223372036854775807) ∧ (-9223372036854775808 ≤ s.header.state ∧ s.header.state ≤ 9223372036854775807) ∧ tY.rd inn w [v1] s.topics := by
  obtain ⟨c0, c1, rfl, h0, h1⟩ := h
  obtain ⟨rfl, f0_0, f0_1, f0_2, f0_3, f0_4⟩ := tHeader.parts h0
  obtain ⟨u1, rfl⟩ := len1 (tY.len h1)
  exact ⟨u1, rfl, f0_0, f0_1, f0_2, f0_3, f0_4, h1⟩
theorem tMark.mk {inn : Nat → Prop} {w : World} {s : MarkD} {v1 : Value} (k0 : (-9223372036854775808 ≤ s.header.seq ∧ s.header.seq ≤ 9223372036854775807)) (k1 : (-9223372036854775808 ≤ s.header.prev ∧ s.header.prev ≤ 9223372036854775807)) (k2 : (-9223372036854775808 ≤ s.header.batch ∧ s.header.batch ≤ 9223372036854775807)) (k3 : (-9223372036854775808 ≤ s.header.root ∧ s.header.root ≤ 9223372036854775807)) (k4 : (-9223372036854775808 ≤ s.header.state ∧ s.header.state ≤ 9223372036854775807)) (k5 : tY.rd inn w [v1] s.topics) : tMark.rd inn w [.int .i64 s.header.seq, .int .i64 s.header.prev, .int .i64 s.header.batch, .int .i64 s.header.root, .int .i64 s.header.state, v1] s := by
  exact ⟨[.int .i64 s.header.seq, .int .i64 s.header.prev, .int .i64 s.header.batch, .int .i64 s.header.root, .int .i64 s.header.state], [v1], rfl, tHeader.mk k0 k1 k2 k3 k4, k5⟩
structure CoreD where
  view : Int
  active : Bool
  ticks : Int
  floor : Int
  base : HeaderD
  blocks : List (BlockD)
  topics : List UInt8
  points : PointsD
  certs : List (CertD)
  marks : List (MarkD)
  slots : List (SlotD)
  held : List (PreparedD)
  changes : List (ChangeD)
  pool : PoolD
  timer : TimerD
  news : List (MsgD)
  wants : Int
def tCore : Ty CoreD := tM (tP tI (tP tB (tP tI (tP tI (tP tHeader (tP (tL tBlock) (tP tY (tP tPoints (tP (tL tCert) (tP (tL tMark) (tP (tL tSlot) (tP (tL tPrepared) (tP (tL tChange) (tP tPool (tP tTimer (tP (tL tMsg) tI)))))))))))))))) (fun s : CoreD => (s.view, s.active, s.ticks, s.floor, s.base, s.blocks, s.topics, s.points, s.certs, s.marks, s.slots, s.held, s.changes, s.pool, s.timer, s.news, s.wants))
theorem tCore.parts {inn : Nat → Prop} {w : World} {cs : List Value} {s : CoreD} (h : tCore.rd inn w cs s) : ∃ v1 v2 v3 v4 v5 v6 v7 v8 v9 v10 v11 v12, cs = [.int .i64 s.view, .bool s.active, .int .i64 s.ticks, .int .i64 s.floor, .int .i64 s.base.seq, .int .i64 s.base.prev, .int .i64 s.base.batch, .int .i64 s.base.root, .int .i64 s.base.state, v1, v2, .int .i64 s.points.stable.seq, .int .i64 s.points.stable.digest, v3, v4, v5, v6, v7, v8, v9, v10, v11, .int .i64 s.timer.length, .int .i64 s.timer.left, v12, .int .i64 s.wants] ∧ (-9223372036854775808 ≤ s.view ∧ s.view ≤ 9223372036854775807) ∧ (-9223372036854775808 ≤ s.ticks ∧ s.ticks ≤ 9223372036854775807) ∧ (-9223372036854775808 ≤ s.floor ∧ s.floor ≤ 9223372036854775807) ∧ (-9223372036854775808 ≤ s.base.seq ∧ s.base.seq ≤ 9223372036854775807) ∧ (-9223372036854775808 ≤ s.base.prev ∧ s.base.prev ≤ 9223372036854775807) ∧ (-9223372036854775808 ≤ s.base.batch ∧ s.base.batch ≤ 9223372036854775807) ∧ (-9223372036854775808 ≤ s.base.root ∧ s.base.root ≤ 9223372036854775807) ∧ (-9223372036854775808 ≤ s.base.state ∧ s.base.state ≤ 9223372036854775807) ∧ (tL tBlock).rd inn w [v1] s.blocks ∧ tY.rd inn w [v2] s.topics ∧ (-9223372036854775808 ≤ s.points.stable.seq ∧ s.points.stable.seq ≤ 9223372036854775807) ∧ (-9223372036854775808 ≤ s.points.stable.digest ∧ s.points.stable.digest ≤ 9223372036854775807) ∧ (tL tSign).rd inn w [v3] s.points.stable.signs ∧ (tL tVote).rd inn w [v4] s.points.votes ∧ (tL tCert).rd inn w [v5] s.points.certs ∧ (tL tCert).rd inn w [v6] s.certs ∧ (tL tMark).rd inn w [v7] s.marks ∧ (tL tSlot).rd inn w [v8] s.slots ∧ (tL tPrepared).rd inn w [v9] s.held ∧ (tL tChange).rd inn w [v10] s.changes ∧ (tL tSigned).rd inn w [v11] s.pool.waiting ∧ (-9223372036854775808 ≤ s.timer.length ∧ s.timer.length ≤ 9223372036854775807) ∧ (-9223372036854775808 ≤ s.timer.left ∧ s.timer.left ≤ 9223372036854775807) ∧ (tL tMsg).rd inn w [v12] s.news ∧ (-9223372036854775808 ≤ s.wants ∧ s.wants ≤ 9223372036854775807) := by
  obtain ⟨c0, e1, rfl, h0, c1, e2, rfl, h1, c2, e3, rfl, h2, c3, e4, rfl, h3, c4, e5, rfl, h4, c5, e6, rfl, h5, c6, e7, rfl, h6, c7, e8, rfl, h7, c8, e9, rfl, h8, c9, e10, rfl, h9, c10, e11, rfl, h10, c11, e12, rfl, h11, c12, e13, rfl, h12, c13, e14, rfl, h13, c14, e15, rfl, h14, c15, c16, rfl, h15, h16⟩ := h
  obtain ⟨rfl, b0⟩ := h0
  obtain rfl : c1 = [.bool s.active] := h1
  obtain ⟨rfl, b2⟩ := h2
  obtain ⟨rfl, b3⟩ := h3
  obtain ⟨rfl, f4_0, f4_1, f4_2, f4_3, f4_4⟩ := tHeader.parts h4
  obtain ⟨u5, rfl⟩ := len1 ((tL tBlock).len h5)
  obtain ⟨u6, rfl⟩ := len1 (tY.len h6)
  obtain ⟨u7_0, u7_1, u7_2, rfl, f7_0, f7_1, f7_2, f7_3, f7_4⟩ := tPoints.parts h7
  obtain ⟨u8, rfl⟩ := len1 ((tL tCert).len h8)
  obtain ⟨u9, rfl⟩ := len1 ((tL tMark).len h9)
  obtain ⟨u10, rfl⟩ := len1 ((tL tSlot).len h10)
  obtain ⟨u11, rfl⟩ := len1 ((tL tPrepared).len h11)
  obtain ⟨u12, rfl⟩ := len1 ((tL tChange).len h12)
  obtain ⟨u13_0, rfl, f13_0⟩ := tPool.parts h13
  obtain ⟨rfl, f14_0, f14_1⟩ := tTimer.parts h14
  obtain ⟨u15, rfl⟩ := len1 ((tL tMsg).len h15)
  obtain ⟨rfl, b16⟩ := h16
  exact ⟨u5, u6, u7_0, u7_1, u7_2, u8, u9, u10, u11, u12, u13_0, u15, rfl, b0, b2, b3, f4_0, f4_1, f4_2, f4_3, f4_4, h5, h6, f7_0, f7_1, f7_2, f7_3, f7_4, h8, h9, h10, h11, h12, f13_0, f14_0, f14_1, h15, b16⟩
theorem tCore.mk {inn : Nat → Prop} {w : World} {s : CoreD} {v1 v2 v3 v4 v5 v6 v7 v8 v9 v10 v11 v12 : Value} (k0 : (-9223372036854775808 ≤ s.view ∧ s.view ≤ 9223372036854775807)) (k1 : (-9223372036854775808 ≤ s.ticks ∧ s.ticks ≤ 9223372036854775807)) (k2 : (-9223372036854775808 ≤ s.floor ∧ s.floor ≤ 9223372036854775807)) (k3 : (-9223372036854775808 ≤ s.base.seq ∧ s.base.seq ≤ 9223372036854775807)) (k4 : (-9223372036854775808 ≤ s.base.prev ∧ s.base.prev ≤ 9223372036854775807)) (k5 : (-9223372036854775808 ≤ s.base.batch ∧ s.base.batch ≤ 9223372036854775807)) (k6 : (-9223372036854775808 ≤ s.base.root ∧ s.base.root ≤ 9223372036854775807)) (k7 : (-9223372036854775808 ≤ s.base.state ∧ s.base.state ≤ 9223372036854775807)) (k8 : (tL tBlock).rd inn w [v1] s.blocks) (k9 : tY.rd inn w [v2] s.topics) (k10 : (-9223372036854775808 ≤ s.points.stable.seq ∧ s.points.stable.seq ≤ 9223372036854775807)) (k11 : (-9223372036854775808 ≤ s.points.stable.digest ∧ s.points.stable.digest ≤ 9223372036854775807)) (k12 : (tL tSign).rd inn w [v3] s.points.stable.signs) (k13 : (tL tVote).rd inn w [v4] s.points.votes) (k14 : (tL tCert).rd inn w [v5] s.points.certs) (k15 : (tL tCert).rd inn w [v6] s.certs) (k16 : (tL tMark).rd inn w [v7] s.marks) (k17 : (tL tSlot).rd inn w [v8] s.slots) (k18 : (tL tPrepared).rd inn w [v9] s.held) (k19 : (tL tChange).rd inn w [v10] s.changes) (k20 : (tL tSigned).rd inn w [v11] s.pool.waiting) (k21 : (-9223372036854775808 ≤ s.timer.length ∧ s.timer.length ≤ 9223372036854775807)) (k22 : (-9223372036854775808 ≤ s.timer.left ∧ s.timer.left ≤ 9223372036854775807)) (k23 : (tL tMsg).rd inn w [v12] s.news) (k24 : (-9223372036854775808 ≤ s.wants ∧ s.wants ≤ 9223372036854775807)) : tCore.rd inn w [.int .i64 s.view, .bool s.active, .int .i64 s.ticks, .int .i64 s.floor, .int .i64 s.base.seq, .int .i64 s.base.prev, .int .i64 s.base.batch, .int .i64 s.base.root, .int .i64 s.base.state, v1, v2, .int .i64 s.points.stable.seq, .int .i64 s.points.stable.digest, v3, v4, v5, v6, v7, v8, v9, v10, v11, .int .i64 s.timer.length, .int .i64 s.timer.left, v12, .int .i64 s.wants] s := by
  exact ⟨[.int .i64 s.view], [.bool s.active, .int .i64 s.ticks, .int .i64 s.floor, .int .i64 s.base.seq, .int .i64 s.base.prev, .int .i64 s.base.batch, .int .i64 s.base.root, .int .i64 s.base.state, v1, v2, .int .i64 s.points.stable.seq, .int .i64 s.points.stable.digest, v3, v4, v5, v6, v7, v8, v9, v10, v11, .int .i64 s.timer.length, .int .i64 s.timer.left, v12, .int .i64 s.wants], rfl, ⟨rfl, k0⟩, [.bool s.active], [.int .i64 s.ticks, .int .i64 s.floor, .int .i64 s.base.seq, .int .i64 s.base.prev, .int .i64 s.base.batch, .int .i64 s.base.root, .int .i64 s.base.state, v1, v2, .int .i64 s.points.stable.seq, .int .i64 s.points.stable.digest, v3, v4, v5, v6, v7, v8, v9, v10, v11, .int .i64 s.timer.length, .int .i64 s.timer.left, v12, .int .i64 s.wants], rfl, rfl, [.int .i64 s.ticks], [.int .i64 s.floor, .int .i64 s.base.seq, .int .i64 s.base.prev, .int .i64 s.base.batch, .int .i64 s.base.root, .int .i64 s.base.state, v1, v2, .int .i64 s.points.stable.seq, .int .i64 s.points.stable.digest, v3, v4, v5, v6, v7, v8, v9, v10, v11, .int .i64 s.timer.length, .int .i64 s.timer.left, v12, .int .i64 s.wants], rfl, ⟨rfl, k1⟩, [.int .i64 s.floor], [.int .i64 s.base.seq, .int .i64 s.base.prev, .int .i64 s.base.batch, .int .i64 s.base.root, .int .i64 s.base.state, v1, v2, .int .i64 s.points.stable.seq, .int .i64 s.points.stable.digest, v3, v4, v5, v6, v7, v8, v9, v10, v11, .int .i64 s.timer.length, .int .i64 s.timer.left, v12, .int .i64 s.wants], rfl, ⟨rfl, k2⟩, [.int .i64 s.base.seq, .int .i64 s.base.prev, .int .i64 s.base.batch, .int .i64 s.base.root, .int .i64 s.base.state], [v1, v2, .int .i64 s.points.stable.seq, .int .i64 s.points.stable.digest, v3, v4, v5, v6, v7, v8, v9, v10, v11, .int .i64 s.timer.length, .int .i64 s.timer.left, v12, .int .i64 s.wants], rfl, tHeader.mk k3 k4 k5 k6 k7, [v1], [v2, .int .i64 s.points.stable.seq, .int .i64 s.points.stable.digest, v3, v4, v5, v6, v7, v8, v9, v10, v11, .int .i64 s.timer.length, .int .i64 s.timer.left, v12, .int .i64 s.wants], rfl, k8, [v2], [.int .i64 s.points.stable.seq, .int .i64 s.points.stable.digest, v3, v4, v5, v6, v7, v8, v9, v10, v11, .int .i64 s.timer.length, .int .i64 s.timer.left, v12, .int .i64 s.wants], rfl, k9, [.int .i64 s.points.stable.seq, .int .i64 s.points.stable.digest, v3, v4, v5], [v6, v7, v8, v9, v10, v11, .int .i64 s.timer.length, .int .i64 s.timer.left, v12, .int .i64 s.wants], rfl, tPoints.mk k10 k11 k12 k13 k14, [v6], [v7, v8, v9, v10, v11, .int .i64 s.timer.length, .int .i64 s.timer.left, v12, .int .i64 s.wants], rfl, k15, [v7], [v8, v9, v10, v11, .int .i64 s.timer.length, .int .i64 s.timer.left, v12, .int .i64 s.wants], rfl, k16, [v8], [v9, v10, v11, .int .i64 s.timer.length, .int .i64 s.timer.left, v12, .int .i64 s.wants], rfl, k17, [v9], [v10, v11, .int .i64 s.timer.length, .int .i64 s.timer.left, v12, .int .i64 s.wants], rfl, k18, [v10], [v11, .int .i64 s.timer.length, .int .i64 s.timer.left, v12, .int .i64 s.wants], rfl, k19, [v11], [.int .i64 s.timer.length, .int .i64 s.timer.left, v12, .int .i64 s.wants], rfl, tPool.mk k20, [.int .i64 s.timer.length, .int .i64 s.timer.left], [v12, .int .i64 s.wants], rfl, tTimer.mk k21 k22, [v12], [.int .i64 s.wants], rfl, k23, ⟨rfl, k24⟩⟩
end Go.Proofs.YtbbcepmhkocgbaaGreatDoor

/- The form of a number, as a list of bytes. Plain; and codec.form. -/
namespace Go.Proofs.YtbbcepmhkocgbaaGreatDoor
open Go.RowKit
set_option linter.unusedVariables false

/-- seven bits a byte, the least first -/
def enc (n : Nat) : List UInt8 := if h : n < 128 then [UInt8.ofNat n] else UInt8.ofNat (n % 128 + 128) :: enc (n / 128)
termination_by n
decreasing_by omega
theorem enc_lt {n : Nat} (h : n < 128) : enc n = [UInt8.ofNat n] := by rw [enc, dif_pos h]
theorem enc_ge {n : Nat} (h : ¬ n < 128) : enc n = UInt8.ofNat (n % 128 + 128) :: enc (n / 128) := by rw [enc, dif_neg h]
theorem enc_pos (n : Nat) : 0 < (enc n).length := by
  by_cases h : n < 128
  · rw [enc_lt h]; simp
  · rw [enc_ge h]; simp
theorem enc_le (k : Nat) : ∀ n, n < 128 ^ (k + 1) → (enc n).length ≤ k + 1 := by
  induction k with
  | zero => intro n h; rw [enc_lt (by simpa using h)]; simp
  | succ k ih =>
    intro n h
    by_cases hn : n < 128
    · rw [enc_lt hn]; simp
    · rw [enc_ge hn]
      have := ih (n / 128) (by rw [Nat.div_lt_iff_lt_mul (by omega)]; rw [Nat.pow_succ] at h; exact h)
      simp; omega
theorem enc_10 {n : Nat} (h : n < 18446744073709551616) : (enc n).length ≤ 10 := enc_le 9 n (Nat.lt_of_lt_of_le h (by decide))
theorem orB (m : Nat) : bits BinOp.or IntKind.u8 ((m : Int) % 256) 128 = ((m % 128 + 128 : Nat) : Int) := by
  have h : ∀ k : Fin 256, bits BinOp.or IntKind.u8 ((k.val : Int)) 128 = ((k.val % 128 + 128 : Nat) : Int) := by decide +kernel
  have := h ⟨m % 256, Nat.mod_lt _ (by omega)⟩
  simp only at this
  rw [show ((m : Int) % 256) = ((m % 256 : Nat) : Int) by omega, this]
  congr 1; omega
theorem u8c (k : Nat) (h : k < 256) : Value.int IntKind.u8 ((UInt8.ofNat k).toNat : Int) = Value.int IntKind.u8 (k : Int) := by
  rw [UInt8.toNat_ofNat']
  congr 2; omega
/-- the cells of an array of ten that begins with bytes -/
def ten (p : List UInt8) : Array Value := (cellsB p ++ List.replicate (10 - p.length) (Value.int IntKind.u8 0)).toArray
theorem ten_size {p : List UInt8} (h : p.length ≤ 10) : (ten p).size = 10 := by simp [ten, cellsB_len]; omega
theorem ten_set {p : List UInt8} (h : p.length < 10) (k : Nat) (hk : k < 256) : (ten p).setIfInBounds p.length (.int .u8 (k : Int)) = ten (p ++ [UInt8.ofNat k]) := by
  apply Array.ext'
  simp only [ten, Array.toList_setIfInBounds, List.length_append, List.length_singleton]
  rw [List.set_append_right _ _ (by rw [cellsB_len]; omega), cellsB_len, Nat.sub_self]
  obtain ⟨j, hj⟩ : ∃ j, 10 - p.length = j + 1 := ⟨10 - p.length - 1, by omega⟩
  rw [hj, show 10 - (p.length + 1) = j by omega, List.replicate_succ, List.set_cons_zero, cellsB_app]
  simp only [List.append_assoc]
  congr 1
  simp [cellsB]
  omega
theorem ten_lit {p : List UInt8} (h : p.length ≤ 10) : ∃ x0 x1 x2 x3 x4 x5 x6 x7 x8 x9 : Int, ten p = #[.int .u8 x0, .int .u8 x1, .int .u8 x2, .int .u8 x3, .int .u8 x4, .int .u8 x5, .int .u8 x6, .int .u8 x7, .int .u8 x8, .int .u8 x9] := by
  have hs := ten_size h
  have hall : ∀ v ∈ (ten p).toList, ∃ x : Int, v = .int .u8 x := by
    intro v hv
    simp only [ten, List.mem_append, cellsB, List.mem_map, List.mem_replicate] at hv
    rcases hv with ⟨b, _, rfl⟩ | ⟨_, rfl⟩
    · exact ⟨_, rfl⟩
    · exact ⟨_, rfl⟩
  obtain ⟨l, hl⟩ : ∃ l, (ten p).toList = l := ⟨_, rfl⟩
  have e : ten p = l.toArray := by rw [← hl]
  rw [hl] at hall
  have hl10 : l.length = 10 := by rw [← hl]; simpa using hs
  match l, hl10 with
  | [a0, a1, a2, a3, a4, a5, a6, a7, a8, a9], _ =>
    obtain ⟨x0, rfl⟩ := hall a0 (by simp)
    obtain ⟨x1, rfl⟩ := hall a1 (by simp)
    obtain ⟨x2, rfl⟩ := hall a2 (by simp)
    obtain ⟨x3, rfl⟩ := hall a3 (by simp)
    obtain ⟨x4, rfl⟩ := hall a4 (by simp)
    obtain ⟨x5, rfl⟩ := hall a5 (by simp)
    obtain ⟨x6, rfl⟩ := hall a6 (by simp)
    obtain ⟨x7, rfl⟩ := hall a7 (by simp)
    obtain ⟨x8, rfl⟩ := hall a8 (by simp)
    obtain ⟨x9, rfl⟩ := hall a9 (by simp)
    exact ⟨x0, x1, x2, x3, x4, x5, x6, x7, x8, x9, e⟩

theorem form_le {n m : Nat} {p : List UInt8} (hp : m * 128 ^ p.length ≤ n) : m ≤ n :=
  Nat.le_trans (Nat.le_mul_of_pos_right m (Nat.one_le_pow _ _ (by omega))) hp
theorem form_more {n m : Nat} {p : List UInt8} (h : n < 18446744073709551616) (hp : m * 128 ^ p.length ≤ n) (hm : 127 < m) : p.length < 9 := by
  rcases Nat.lt_or_ge p.length 9 with h | h
  · exact h
  · have h1 := Nat.pow_le_pow_right (show 0 < 128 by omega) h
    have h2 : 128 * 128 ^ p.length ≤ m * 128 ^ p.length := Nat.mul_le_mul_right _ (by omega)
    have e10 : (128 : Nat) ^ 9 = 9223372036854775808 := by decide
    omega
set_option maxRecDepth 20000 in
set_option maxHeartbeats 1000000 in
theorem form115 (w : World) (n : Nat) (hn : n < 18446744073709551616) : Calls Tryz.prog 89 #[.int .u64 (n : Int)] w fun e w' => e = .returned (.tuple #[.agg (ten (enc n)), .int .i64 ((enc n).length : Int)]) ∧ B w w' := by
  have HN := Lib.hid hn
  have hz : ten [] = #[.int .u8 0, .int .u8 0, .int .u8 0, .int .u8 0, .int .u8 0, .int .u8 0, .int .u8 0, .int .u8 0, .int .u8 0, .int .u8 0] := rfl
  have k1 : Blk ((w.alloc (.cells (ten []) 151)).alloc (.cells (ten []) 151)) w.heap.size 151 (ten []) := (Blk.new w _ _).alloc _
  have k2 : Blk ((w.alloc (.cells (ten []) 151)).alloc (.cells (ten []) 151)) (w.heap.size + 1) 151 (ten []) := by simpa using Blk.new (w.alloc (.cells (ten []) 151)) 151 (ten [])
  have k3 : B w ((w.alloc (.cells (ten []) 151)).alloc (.cells (ten []) 151)) := (B.alloc' _ _).trans (B.alloc' _ _)
  rw [hz] at k1 k2 k3
  clear hz hn
  go_enter Tryz.func89, Tryz.ntmps89
  go_wp2_with fail
  rw [← show ten [] = #[Value.int IntKind.u8 0, .int .u8 0, .int .u8 0, .int .u8 0, .int .u8 0, .int .u8 0, .int .u8 0, .int .u8 0, .int .u8 0, .int .u8 0] from rfl] at k1 k2 k3
  go_loopw [0, 5] (fun x k wr => ∃ (m q : Nat) (p : List UInt8), x = .int .u64 (m : Int) ∧ k = .int .i64 (q : Int) ∧ Hid (p.length = q) ∧ Hid (enc n = p ++ enc m) ∧ q < 10 ∧ Hid (m * 128 ^ q ≤ n) ∧ Hid (Blk wr w.heap.size 151 (ten [])) ∧ Hid (Blk wr (w.heap.size + 1) 151 (ten p)) ∧ Hid (B w wr)) (fun x _ _ => (intOf x).toNat)
  case atStart => exact ⟨n, 0, [], rfl, rfl, rfl, rfl, by omega, by show n * 128 ^ 0 ≤ n; omega, k1, k2, k3⟩
  case round =>
    obtain ⟨m, q, p, rfl, rfl, HL, HE, hq, HP, H1, H2, H3⟩ := hrel
    clear k1 k2 k3
    have hmn := Lib.hid (form_le (p := p) (by rw [HL.out]; exact HP.out))
    have hsz := Lib.hid (ten_size (p := p) (by rw [HL.out]; omega))
    have c3 := H2.out.frozen q
    obtain ⟨cv, c2⟩ : ∃ cv, wr.cell? ⟨w.heap.size + 1, q, none⟩ = some cv := by
      rw [H2.out.cell]
      exact ⟨(ten p)[q]'(by rw [hsz.out]; omega), Array.getElem?_eq_getElem _⟩
    have hqi : (q : Int) < 10 := by omega
    by_cases hm : 127 < m
    · have hpl := Lib.hid (form_more (p := p) HN.out (by rw [HL.out]; exact HP.out) hm)
      go_wp2_with fail
      go_roundw
      case rel =>
        have hq9 : q < 9 := by have := hpl.out; have := HL.out; omega
        refine ⟨m / 128, q + 1, p ++ [UInt8.ofNat (m % 128 + 128)], by go_num, by go_num, ?_, ?_, by omega, ?_, H1.out.far (by simp) _, ?_, H3.out.setCell (by simp) _⟩
        · show (p ++ [_]).length = q + 1
          rw [List.length_append, HL.out]; rfl
        · show enc n = _
          rw [HE.out, enc_ge (by omega), List.append_assoc]; rfl
        · show m / 128 * 128 ^ (q + 1) ≤ n
          rw [Nat.pow_succ, Nat.mul_comm (128 ^ q) 128, ← Nat.mul_assoc]
          exact Nat.le_trans (Nat.mul_le_mul_right _ (Nat.div_mul_le_self m 128)) HP.out
        · show Blk _ _ _ _
          rw [orB]
          have := H2.out.set_ q (.int .u8 ((m % 128 + 128 : Nat) : Int))
          have e := ten_set (p := p) (by rw [HL.out]; omega) (m % 128 + 128) (by omega)
          rw [HL.out] at e
          rwa [e] at this
      case measure => simp [intOf]; omega
    · have hpt := ten_set (p := p) (by rw [HL.out]; omega) m (by omega)
      rw [HL.out] at hpt
      obtain ⟨x0, x1, x2, x3, x4, x5, x6, x7, x8, x9, hx⟩ := ten_lit (p := p ++ [UInt8.ofNat m]) (by simp; rw [HL.out]; omega)
      have HX := Lib.hid hx
      have HEN := Lib.hid (show enc n = p ++ [UInt8.ofNat m] by rw [HE.out, enc_lt (by omega)])
      have HT := Lib.hid (show Blk (wr.setCell ⟨w.heap.size + 1, q, none⟩ (.int .u8 (m : Int))) (w.heap.size + 1) 151 #[.int .u8 x0, .int .u8 x1, .int .u8 x2, .int .u8 x3, .int .u8 x4, .int .u8 x5, .int .u8 x6, .int .u8 x7, .int .u8 x8, .int .u8 x9] from by
        have := H2.out.set_ q (.int .u8 (m : Int)); rwa [hpt, hx] at this)
      have HZ := Lib.hid (show Blk (wr.setCell ⟨w.heap.size + 1, q, none⟩ (.int .u8 (m : Int))) w.heap.size 151 #[.int .u8 0, .int .u8 0, .int .u8 0, .int .u8 0, .int .u8 0, .int .u8 0, .int .u8 0, .int .u8 0, .int .u8 0, .int .u8 0] from H1.out.far (by simp) _)
      have HB := Lib.hid (show B w (wr.setCell ⟨w.heap.size + 1, q, none⟩ (.int .u8 (m : Int))) from H3.out.setCell (by simp) _)
      have hm256 : (m : Int) % 256 = m := by omega
      clear hpt hx
      go_wp2_with (refine wpList_load_row rfl 151 (.tmp 4) rfl (w.heap.size + 1) rfl 151 #[.int .u8 x0, .int .u8 x1, .int .u8 x2, .int .u8 x3, .int .u8 x4, .int .u8 x5, .int .u8 x6, .int .u8 x7, .int .u8 x8, .int .u8 x9] (0, 0) _ HT.out Tryz.underlying151 rfl (by kernel_rfl) ?_; have cz := fun i => HZ.out.cell i; have fz := fun i => HZ.out.frozen i; have HS := Lib.hid HB.out; generalize wr.setCell ⟨w.heap.size + 1, q, none⟩ (.int .u8 (m : Int)) = wz at *)
      refine bodyPost_ret (v := .tuple #[.agg #[.int .u8 x0, .int .u8 x1, .int .u8 x2, .int .u8 x3, .int .u8 x4, .int .u8 x5, .int .u8 x6, .int .u8 x7, .int .u8 x8, .int .u8 x9], .int .i64 ((q : Int) + 1)]) (by simp [results, Tryz.results89, go_sem, cz]) rfl ⟨?_, ?_⟩
      · rw [← HX.out, ← HEN.out]
        have e : ((q : Int) + 1) = ((enc n).length : Int) := by rw [HEN.out, List.length_append, HL.out]; simp
        rw [e]
      · repeat (refine Below.setCell ?_ (by simp) _)
        exact HB.out
end Go.Proofs.YtbbcepmhkocgbaaGreatDoor

/- What codec and its reference put: numbers, byte strings, lists. -/
namespace Go.Proofs.YtbbcepmhkocgbaaGreatDoor
open Go.RowKit
set_option linter.unusedVariables false

/-- a slice with no room behind it -/
def clipV : Value → Value | .slice A n _ => .slice A n n | v => v
set_option maxHeartbeats 400000 in
theorem clip116 {w : World} {v : Value} {bs : List UInt8} (h : Bs w v bs) : Calls Tryz.prog 90 #[v] w fun e w' => e = .returned (clipV v) ∧ w = w' := by
  obtain ⟨⟨A, cap, rfl, hn, hc, hm, hr⟩, hl⟩ := h
  have hm' : bs.length ≤ 9223372036854775807 := by unfold maxLen at hm; omega
  have hci : (bs.length : Int) ≤ (cap : Int) := by omega
  cases A with
  | none =>
    obtain ⟨rfl, rfl⟩ := hn rfl
    clear hr hn hc hm hl
    go_enter Tryz.func90, Tryz.ntmps90
    go_wp2
    go_ret
    exact ⟨rfl, rfl⟩
  | some ad =>
    clear hr hn hm hl
    go_enter Tryz.func90, Tryz.ntmps90
    go_wp2
    go_ret
    exact ⟨rfl, rfl⟩
/-- append where there is no room: a new row -/
theorem append_clip {P : Program} {t ty : TypeId} {w : World} {v u : Value} {bs news : List UInt8} (ht : P.underlying t = some (.slice 5)) (hi5 : (P.info? 5).map (fun i => (i.zero, i.size, i.bytes)) = some (some (.int .u8 0), 1, 1))
    (hv : Bs w v bs) (hu : Rd w u news.length 1 (cellsB news)) (hm : 0 < news.length) (hroom : bs.length + news.length ≤ big) :
    ∃ v' w', (Builtin.append_ #[t, t] ty #[clipV v, u]).run P w = .ok v' w' ∧ w'.ownsRow w.heap.size 5 1 v' (bs ++ news).length (cellsB (bs ++ news)) ∧ B w w' := by
  obtain ⟨⟨A, cap, rfl, hn, hc, hmx, hr⟩, hl⟩ := hv
  have hb1 : bs.length + news.length ≤ maxLen := by unfold big at hroom; unfold maxLen; omega
  have hb2 : (bs.length + news.length) * 1 ≤ 140737488355328 := by unfold big at hroom; omega
  cases A with
  | none =>
    obtain ⟨rfl, rfl⟩ := hn rfl
    obtain ⟨v', w', h1, h2, h3, h4⟩ := append_Rd (P := P) (t := t) (ty := ty) ht hi5 rfl Nat.zero_lt_one (ownNil w w.heap.size 5 1) hu (cellsB_one _) (by simpa using hb1) (by simpa using hb2) (Nat.le_refl _)
    exact ⟨v', w', h1, by simpa using h2, B.grown (Below.refl _ _) h3 (fun k hk => by simp [Value.ownBlock] at hk)⟩
  | some ad =>
    obtain ⟨i, hi, hz0, hs, hby⟩ := info_parts hi5
    obtain ⟨hul, A', c', rfl, hn', hc', hr'⟩ := hu
    cases A' with
    | none => have := (hn' rfl).1; omega
    | some ad' =>
      obtain ⟨v', w', h1, h2, h3⟩ := run_append_arg_grows (P := P) w t ty 5 i (.int .u8 0) 1 1 ht hi hz0 hs hby rfl Nat.zero_lt_one ad bs.length bs.length (cellsB bs) (by rw [cellsB_len]; omega) (hr ad rfl).2 ad' news.length c' (cellsB news) (by rw [cellsB_len]; omega) (hr' ad' rfl).2 (by omega) hb1 hb2
      exact ⟨v', w', h1, by rw [List.length_append, cellsB_app]; exact h2, B.grown (Below.refl _ _) h3 (fun k hk => by cases hk)⟩
theorem ten_rd {w : World} {g : Nat} {p : List UInt8} (hp : p.length ≤ 10) (h : Blk w g 151 (ten p)) : Rd w (.slice (some ⟨g, 0, none⟩) p.length 10) p.length 1 (cellsB p) := by
  refine ⟨by rw [cellsB_len]; omega, _, 10, rfl, fun e => (by cases e), hp, fun ad had => ?_⟩
  cases had
  refine ⟨fun _ => h.lt, fun j x hx => ?_⟩
  have ea : (⟨g, 0, none⟩ : Addr).add j = ⟨g, j, none⟩ := by unfold Addr.add; split <;> simp_all
  rw [ea, h.cell, ← hx]
  have hj : j < (cellsB p).length := by
    rcases Nat.lt_or_ge j (cellsB p).length with h | h
    · exact h
    · rw [List.getElem?_eq_none h] at hx; cases hx
  simp only [ten, List.getElem?_toArray]
  rw [List.getElem?_append_left hj]

set_option maxRecDepth 20000 in
set_option maxHeartbeats 1000000 in
theorem putNum70 {w : World} {v : Value} {bs : List UInt8} (h : Bs w v bs) (n : Nat) (hn : n < 18446744073709551616) (hl : bs.length + 10 ≤ big) : Calls Tryz.prog 61 #[v, .int .u64 (n : Int)] w (Fresh w (bs ++ enc n)) := by
  have H := Lib.hid h
  have HF := Lib.hid (form115 w n hn)
  have HE := Lib.hid (enc_10 hn)
  have HL := Lib.hid hl
  obtain ⟨x0, x1, x2, x3, x4, x5, x6, x7, x8, x9, hx⟩ := ten_lit (p := enc n) (enc_10 hn)
  have HX := Lib.hid hx
  have hq : (enc n).length ≤ 10 := enc_10 hn
  have hqi : ((enc n).length : Int) ≤ 10 := by omega
  clear h hn hl hx
  go_enter Tryz.func61, Tryz.ntmps61
  go_wp2_with (go_at_call 89; refine HF.out.mono ?_; rintro e w1 ⟨rfl, hb1⟩; rw [HX.out])
  have hb2 := hb1.trans (B.alloc' w1 (.cells #[.int .u8 x0, .int .u8 x1, .int .u8 x2, .int .u8 x3, .int .u8 x4, .int .u8 x5, .int .u8 x6, .int .u8 x7, .int .u8 x8, .int .u8 x9] 151))
  have hk : Blk (w1.alloc (.cells #[.int .u8 x0, .int .u8 x1, .int .u8 x2, .int .u8 x3, .int .u8 x4, .int .u8 x5, .int .u8 x6, .int .u8 x7, .int .u8 x8, .int .u8 x9] 151)) w1.heap.size 151 #[.int .u8 x0, .int .u8 x1, .int .u8 x2, .int .u8 x3, .int .u8 x4, .int .u8 x5, .int .u8 x6, .int .u8 x7, .int .u8 x8, .int .u8 x9] := Blk.new w1 _ _
  generalize w1.alloc (.cells #[.int .u8 x0, .int .u8 x1, .int .u8 x2, .int .u8 x3, .int .u8 x4, .int .u8 x5, .int .u8 x6, .int .u8 x7, .int .u8 x8, .int .u8 x9] 151) = w2 at *
  have hk' : Blk w2.drew w1.heap.size 151 (ten (enc n)) := by rw [HX.out]; exact hk
  obtain ⟨v', w3, hrun, h2, h3⟩ := append_clip (P := Tryz.prog) (t := 37) (ty := 37) Tryz.underlying37 info5 (H.out.later (hb2.trans (Below.refl _ _).drew)) (ten_rd HE.out hk') (enc_pos n) (by have := HE.out; have := HL.out; omega)
  have HC := Lib.hid (clip116 (H.out.later (hb2.trans (Below.refl _ _).drew)))
  have HB := Lib.hid (hb2.trans ((Below.refl _ _).drew.trans h3))
  have hs2 := hb2.size
  have HO := Lib.hid (row_base h2 (show w.heap.size ≤ w2.drew.heap.size from hs2))
  clear hk hk' h2 h3 hb1 hb2 hs2
  go_region_law (first
    | (refine step_call rfl 90 #[.tmp 12] #[37] rfl Tryz.call90 HC.out rfl ?_; rintro e wn ⟨rfl, rfl⟩; refine ⟨_, rfl, ?_⟩)
    | (refine step_append_run rfl (.tmp 13) (.tmp 15) 37 rfl rfl rfl hrun ?_))
  all_goals
    go_wp2_with fail
    go_ret
    exact ⟨v', rfl, HO.out, HB.out⟩
end Go.Proofs.YtbbcepmhkocgbaaGreatDoor

/- What codec and its reference put: byte strings, lists; how long a number's form is. -/
namespace Go.Proofs.YtbbcepmhkocgbaaGreatDoor
open Go.RowKit
set_option linter.unusedVariables false

theorem Fresh.mk {w w' : World} {bs : List UInt8} {v : Value} {n : Nat} {xs : List Value} (h : w'.ownsRow w.heap.size 5 1 v n xs) (hn : n = bs.length) (hx : xs = cellsB bs) (hb : B w w') : Fresh w bs (.returned v) w' := by
  subst hn hx; exact ⟨v, rfl, h, hb⟩
/-- append onto a row of the call's own: the bytes behind it -/
theorem Fresh.app {w w1 w2 : World} {z xs : List UInt8} {A1 A2 : Option Addr} {c1 c2 : Nat} (r1 : w1.ownsRow w.heap.size 5 1 (.slice A1 z.length c1) z.length (cellsB z)) (hb : B w w1)
    (r2 : w2.ownsRow w.heap.size 5 1 (.slice A2 (z.length + xs.length) c2) (z.length + xs.length) (cellsB z ++ cellsB xs)) (x2 : w1.grownBy w2 (Value.slice A1 z.length c1).ownBlock) : Fresh w (z ++ xs) (.returned (.slice A2 (z.length + xs.length) c2)) w2 :=
  Fresh.mk r2 (by simp) (by rw [cellsB_app]) (B.grown hb x2 (fun k hk => row_ge r1 hk))

theorem Rd.byte (w : World) (b : UInt8) (y : Int) (h : (b.toNat : Int) = y) : Rd (w.alloc (.cells #[.int .u8 y] 5)) (.slice (some ⟨w.heap.size, 0, none⟩) 1 1) 1 1 (cellsB [b]) := by
  subst h
  exact Rd.lit w #[.int .u8 (b.toNat : Int)] 5 1 rfl
theorem u8i (k : Nat) (h : k < 256) : ((UInt8.ofNat k).toNat : Int) = (k : Int) := by rw [UInt8.toNat_ofNat']; congr 1; omega
theorem u64_id {x : Int} (h : 0 ≤ x ∧ x < 18446744073709551616) : IntKind.u64.wrap x = x := by
  simp [IntKind.wrap, IntKind.signed, IntKind.bits]; omega
/-- PutBytes, whichever PutNum stands in it -/
theorem putNum71 {w : World} {v : Value} {bs : List UInt8} (h : Bs w v bs) (n : Nat) (hn : n < 18446744073709551616) (hl : bs.length + 10 ≤ big) : Calls Tryz.prog 55 #[v, .int .u64 (n : Int)] w (Fresh w (bs ++ enc n)) := by
  have H := Lib.hid h
  have HE := Lib.hid (enc_10 hn)
  have HL := Lib.hid hl
  have HN := Lib.hid hn
  have g1 : 0 + bs.length ≤ maxLen := by unfold big at hl; unfold maxLen; omega
  have g2 : (0 + bs.length) * 1 ≤ 140737488355328 := by unfold big at hl; omega
  have o1 := cellsB_one bs
  clear h hn hl
  go_enter Tryz.func55, Tryz.ntmps55
  go_wp2_with (at_builtin; refine wpList_append_Rd (v := .slice none 0 0) (base := w.heap.size) rfl (.tmp 6) (.tmp 7) 37 rfl Tryz.underlying37 info5 rfl Nat.zero_lt_one rfl rfl (ownNil _ _ 5 1) H.out.rd o1 g1 g2 (Nat.le_refl _) ?_; intro A1 c1 w1 r1 x1 y1; simp only [Nat.zero_add, List.nil_append] at r1 y1; have hB1 : B w w1 := B.grown (Below.refl _ _) x1 (fun k hk => by simp [Value.ownBlock] at hk))
  have R1 := Lib.hid r1
  have HB1 := Lib.hid hB1
  clear r1 x1 y1 hB1
  go_loopw [1, 5] (fun x v wr => ∃ (m k : Nat) (z : List UInt8) (A : Option Addr) (c : Nat), x = .int .u64 (m : Int) ∧ v = .slice A k c ∧ Hid (z.length = k) ∧ Hid (m ≤ n) ∧ Hid (bs ++ enc n = z ++ enc m) ∧ Hid (wr.ownsRow w.heap.size 5 1 (.slice A k c) k (cellsB z)) ∧ Hid (B w wr)) (fun x _ _ => (intOf x).toNat)
  case atStart => exact ⟨n, bs.length, bs, A1, c1, rfl, by simp, rfl, Nat.le_refl _, rfl, R1.out, HB1.out⟩
  case round =>
    obtain ⟨m, k, z, A, c, rfl, rfl, HZ, HM, HE', HR, HB⟩ := hrel
    have hk : k + 1 ≤ bs.length + 10 := by
      have h1 := congrArg List.length HE'.out
      simp only [List.length_append] at h1
      have := enc_pos m; have := HE.out; have := HZ.out; omega
    have g3 : k + 1 ≤ maxLen := by have := HL.out; unfold big at this; unfold maxLen; omega
    have g4 : (k + 1) * 1 ≤ 140737488355328 := by have := HL.out; unfold big at this; omega
    have hbs := Lib.hid HB.out.size
    by_cases hm : 128 ≤ m
    · have hmi : (128 : Int) ≤ m := by omega
      have hw : IntKind.u64.wrap ((m : Int) / 128) = (m : Int) / 128 := u64_id (by have := HN.out; have := HM.out; omega)
      have o2 := cellsB_one [UInt8.ofNat (m % 128 + 128)]
      have hcl := Lib.hid (show ((UInt8.ofNat (m % 128 + 128)).toNat : Int) = (m : Int) % 128 + 128 by rw [u8i _ (by omega)]; omega)
      go_wp2_with (at_builtin; refine wpList_append_Rd rfl (.tmp 11) (.tmp 16) 37 rfl Tryz.underlying37 info5 rfl Nat.zero_lt_one rfl rfl (row_later HR.out (B.alloc' _ _)) (Rd.byte wr (UInt8.ofNat (m % 128 + 128)) _ hcl.out) o2 g3 g4 (Nat.le_trans hbs.out (B.alloc' _ _).size) ?_; intro A2 c2 w2 r2 x2 y2; have R2 := Lib.hid r2; have X2 := Lib.hid x2; clear r2 x2 y2)
      go_roundw
      case rel =>
        refine ⟨m / 128, k + 1, z ++ [UInt8.ofNat (m % 128 + 128)], A2, c2, by go_num, rfl, ?_, Nat.le_trans (Nat.div_le_self _ _) HM.out, ?_, ?_, ?_⟩
        · show (z ++ [_]).length = k + 1
          rw [List.length_append, HZ.out]; rfl
        · show bs ++ enc n = _
          rw [HE'.out, enc_ge (by omega), List.append_assoc]; rfl
        · show World.ownsRow _ _ _ _ _ _ _
          rw [cellsB_app]; exact R2.out
        · exact B.grown (HB.out.trans (B.alloc' _ _)) X2.out (fun g hg => row_ge HR.out hg)
      case measure => simp [intOf]; omega
    · have hmi : ¬ (128 : Int) ≤ m := by omega
      have hm256 : (m : Int) % 256 = m := by omega
      have o2 := cellsB_one [UInt8.ofNat m]
      have hcl := Lib.hid (show ((UInt8.ofNat m).toNat : Int) = (m : Int) by rw [u8i _ (by omega)])
      have hez := Lib.hid (show bs ++ enc n = z ++ [UInt8.ofNat m] by rw [HE'.out, enc_lt (by omega)])
      clear hm
      go_wp2_with (at_builtin; refine wpList_append_Rd rfl (.tmp 20) (.tmp 23) 37 rfl Tryz.underlying37 info5 rfl Nat.zero_lt_one rfl rfl (row_later HR.out (B.alloc' _ _)) (Rd.byte wr (UInt8.ofNat m) _ hcl.out) o2 g3 g4 (Nat.le_trans hbs.out (B.alloc' _ _).size) ?_; intro A2 c2 w2 r2 x2 y2; have R2 := Lib.hid r2; have X2 := Lib.hid x2; clear r2 x2 y2)
      go_ret
      exact Fresh.mk R2.out (by rw [hez.out, List.length_append, HZ.out]; rfl) (by rw [hez.out, cellsB_app]) (B.grown (HB.out.trans (B.alloc' _ _)) X2.out (fun g hg => row_ge HR.out hg))

def putB (bs xs : List UInt8) : List UInt8 := bs ++ enc xs.length ++ xs
def putS (L : List (List UInt8)) : List UInt8 := (L.map fun x => enc x.length ++ x).flatten
def putL (bs : List UInt8) (L : List (List UInt8)) : List UInt8 := bs ++ enc L.length ++ putS L

set_option maxHeartbeats 1000000 in
theorem putBytes72 {w : World} {v u : Value} {bs xs : List UInt8} (h : Bs w v bs) (k : Bs w u xs) (hl : (bs ++ xs).length + 10 ≤ big) : Calls Tryz.prog 84 #[v, u] w (Fresh w (putB bs xs)) := by
  have hxl : xs.length < 18446744073709551616 := by have := k.len; unfold big at this; omega
  have hl' : bs.length + 10 + xs.length ≤ big := by simp at hl; omega
  have HP := Lib.hid (putNum70 h xs.length hxl (by omega))
  have h10 := enc_10 hxl
  have HK := Lib.hid k
  obtain ⟨z, hz⟩ : ∃ z, z = bs ++ enc xs.length := ⟨_, rfl⟩
  have hzl : z.length ≤ bs.length + 10 := by rw [hz, List.length_append]; omega
  rw [← hz] at HP
  have g1 : z.length + xs.length ≤ maxLen := by unfold big at hl'; unfold maxLen; omega
  have g2 : (z.length + xs.length) * 1 ≤ 140737488355328 := by unfold big at hl'; omega
  have o1 := cellsB_one xs
  have HZ := Lib.hid (show putB bs xs = z ++ xs by rw [hz]; rfl)
  have hxi : (xs.length : Int) ≤ 140737488355328 := by have := k.len; unfold big at this; omega
  rw [HZ.out]
  obtain ⟨B0, cp, rfl⟩ := HK.out.rd.slice
  clear h k hl hl' h10 hz hzl hxl
  go_enter Tryz.func84, Tryz.ntmps84
  go_wp2_with (first
    | (go_at_call 61; (with_reducible refine HP.out.mono ?_); rintro e w1 ⟨v1, rfl, r1, hb1⟩; obtain ⟨A1, c1, rfl⟩ := own_slice r1; have hb1s := hb1.size)
    | (at_builtin; refine wpList_append_Rd rfl (.tmp 9) (.tmp 10) 37 rfl Tryz.underlying37 info5 rfl Nat.zero_lt_one rfl rfl r1 (HK.out.later hb1).rd o1 g1 g2 hb1s ?_; intro A2 c2 w2 r2 x2 y2))
  go_ret
  exact Fresh.app r1 hb1 r2 x2

set_option maxHeartbeats 1000000 in
theorem putBytes73 {w : World} {v u : Value} {bs xs : List UInt8} (h : Bs w v bs) (k : Bs w u xs) (hl : (bs ++ xs).length + 10 ≤ big) : Calls Tryz.prog 76 #[v, u] w (Fresh w (putB bs xs)) := by
  have hxl : xs.length < 18446744073709551616 := by have := k.len; unfold big at this; omega
  have hl' : bs.length + 10 + xs.length ≤ big := by simp at hl; omega
  have HP := Lib.hid (putNum71 h xs.length hxl (by omega))
  have h10 := enc_10 hxl
  have HK := Lib.hid k
  obtain ⟨z, hz⟩ : ∃ z, z = bs ++ enc xs.length := ⟨_, rfl⟩
  have hzl : z.length ≤ bs.length + 10 := by rw [hz, List.length_append]; omega
  rw [← hz] at HP
  have g1 : z.length + xs.length ≤ maxLen := by unfold big at hl'; unfold maxLen; omega
  have g2 : (z.length + xs.length) * 1 ≤ 140737488355328 := by unfold big at hl'; omega
  have o1 := cellsB_one xs
  have HZ := Lib.hid (show putB bs xs = z ++ xs by rw [hz]; rfl)
  have hxi : (xs.length : Int) ≤ 140737488355328 := by have := k.len; unfold big at this; omega
  rw [HZ.out]
  obtain ⟨B0, cp, rfl⟩ := HK.out.rd.slice
  clear h k hl hl' h10 hz hzl hxl
  go_enter Tryz.func76, Tryz.ntmps76
  go_wp2_with (first
    | (go_at_call 55; (with_reducible refine HP.out.mono ?_); rintro e w1 ⟨v1, rfl, r1, hb1⟩; obtain ⟨A1, c1, rfl⟩ := own_slice r1; have hb1s := hb1.size)
    | (at_builtin; refine wpList_append_Rd rfl (.tmp 9) (.tmp 10) 37 rfl Tryz.underlying37 info5 rfl Nat.zero_lt_one rfl rfl r1 (HK.out.later hb1).rd o1 g1 g2 hb1s ?_; intro A2 c2 w2 r2 x2 y2))
  go_ret
  exact Fresh.app r1 hb1 r2 x2
end Go.Proofs.YtbbcepmhkocgbaaGreatDoor

/- Byte slices cut; which number bytes say. -/
namespace Go.Proofs.YtbbcepmhkocgbaaGreatDoor
open Go.RowKit Go.Deep
set_option linter.unusedVariables false

/-- where the bytes lie -/
theorem Bs.form {w : World} {v : Value} {bs : List UInt8} (h : Bs w v bs) : ∃ (A : Option Addr) (cap : Nat), v = .slice A bs.length cap ∧ bs.length ≤ cap ∧ cap ≤ maxLen ∧ (0 < bs.length → ∃ b off, A = some ⟨b, off, none⟩ ∧ b < w.heap.size ∧ ∀ j x, bs[j]? = some x → w.cell? ⟨b, off + j, none⟩ = some (.int .u8 (x.toNat : Int))) := by
  obtain ⟨⟨A, cap, rfl, hn, hc, hm, hr⟩, hl⟩ := h
  refine ⟨A, cap, rfl, hc, hm, fun h0 => ?_⟩
  cases A with
  | none => have := (hn rfl).1; subst this; simp at h0
  | some ad =>
    obtain ⟨h1, h2⟩ := hr ad rfl
    have c0 := h2 0 _ (cellsB_get bs 0 h0)
    have za : ad = ⟨ad.block, ad.off, none⟩ := by
      have := cell_spot c0
      simp [Addr.add] at this
      exact this
    refine ⟨ad.block, ad.off, by rw [← za], h1 (fun e => by subst e; simp at h0), fun j x hx => ?_⟩
    have hj : j < bs.length := by
      rcases Nat.lt_or_ge j bs.length with h | h
      · exact h
      · rw [List.getElem?_eq_none h] at hx; cases hx
    have := h2 j _ (cellsB_get bs j hj)
    rw [za, addr_add] at this
    rw [this]
    rw [List.getElem?_eq_getElem hj] at hx
    cases hx; rfl
/-- which number bytes say: the number, what is left, the error -/
def numGo (most : Nat) : Nat → Nat → List UInt8 → Nat × List UInt8 × Int
  | _, _, [] => (0, [], 10)
  | i, acc, c :: r =>
    if i = 9 ∧ 1 < c.toNat then (0, [], 11)
    else if 127 < c.toNat then numGo most (i + 1) (acc + c.toNat % 128 * 128 ^ i) r
    else if (0 < i ∧ c.toNat = 0) ∨ most < acc + c.toNat * 128 ^ i then (0, [], 11)
    else (acc + c.toNat * 128 ^ i, r, 0)
def numS (bs : List UInt8) (e : Int) (most : Nat) : Nat × List UInt8 × Int := if e = 0 then numGo most 0 0 bs else (0, bs, e)
end Go.Proofs.YtbbcepmhkocgbaaGreatDoor

/- The reader of codec: its place in memory; stuck, Fail, Err, Left, Done, Read. -/
namespace Go.Proofs.YtbbcepmhkocgbaaGreatDoor
open Go.RowKit
set_option linter.unusedVariables false

theorem Bs.ne_blk {w : World} {v : Value} {bs : List UInt8} {p : Nat} {t : TypeId} {cs : Array Value} (h : Bs w v bs) (hne : bs ≠ []) (hk : Blk w p t cs) (hc : ∀ (i : Nat) (x : Int), cs[i]? ≠ some (.int .u8 x)) : v.ownBlock ≠ some p := by
  obtain ⟨A, cap, rfl, _, _, hr⟩ := h.form
  have h0 : 0 < bs.length := List.length_pos_iff.2 hne
  obtain ⟨b, off, rfl, _, hx⟩ := hr h0
  intro e
  have : b = p := by simpa [Value.ownBlock] using e
  subst this
  have := hx 0 _ (List.getElem?_eq_getElem h0)
  rw [hk.cell] at this
  exact hc _ _ this
theorem rd_nou8 (A : Option Addr) (n c : Nat) (e : Int) (i : Nat) (x : Int) : (#[Value.slice A n c, .int .i64 e, .bool true] : Array Value)[i]? ≠ some (.int .u8 x) := by
  rcases i with _ | _ | _ | i <;> simp
section
variable {W w : World} {p : Nat} {bs : List UInt8} {e : Int} {L : List Asn}
theorem stuck_b (e : Int) : ∃ b, (e != 0) = b := ⟨_, rfl⟩
/-- the error and the bytes behind 'Fail k' -/
def failE (e k : Int) : Int := if e = 0 then k else e
def failB (bs : List UInt8) (e k : Int) : List UInt8 := if e = 0 ∧ k = 0 then bs else []
def doneE (bs : List UInt8) (e : Int) : Int := if e ≠ 0 then e else if bs = [] then 0 else 12
end
end Go.Proofs.YtbbcepmhkocgbaaGreatDoor

/- Num of codec's reader. -/
namespace Go.Proofs.YtbbcepmhkocgbaaGreatDoor
open Go.RowKit
set_option linter.unusedVariables false

theorem andB (y : Nat) (h : y < 256) : bits BinOp.and IntKind.u8 (y : Int) 127 = ((y % 128 : Nat) : Int) := by
  have h' : ∀ k : Fin 256, bits BinOp.and IntKind.u8 ((k.val : Int)) 127 = ((k.val % 128 : Nat) : Int) := by decide +kernel
  exact h' ⟨y, h⟩
theorem or64 (a e : Nat) (ha : a < 18446744073709551616) (he : e < 18446744073709551616) : bits BinOp.or IntKind.u64 (a : Int) (e : Int) = ((a ||| e : Nat) : Int) := by
  have hlt : a ||| e < 2 ^ 64 := Nat.or_lt_two_pow (by omega) (by omega)
  have e0 : bits BinOp.or IntKind.u64 (a : Int) (e : Int) = IntKind.u64.wrap (((BitVec.ofInt 64 (a : Int) ||| BitVec.ofInt 64 (e : Int)).toNat : Nat) : Int) := rfl
  have e1 : (BitVec.ofInt 64 (a : Int)) = BitVec.ofNat 64 a := by simp
  have e2 : (BitVec.ofInt 64 (e : Int)) = BitVec.ofNat 64 e := by simp
  rw [e0, e1, e2, BitVec.toNat_or, BitVec.toNat_ofNat, BitVec.toNat_ofNat, Nat.mod_eq_of_lt (show a < 2 ^ 64 by omega), Nat.mod_eq_of_lt (show e < 2 ^ 64 by omega)]
  exact u64_id (by omega)
/-- one digit more -/
theorem numStep (acc q y : Nat) (hy : y < 256) (hq : q ≤ 9) (ha : acc < 128 ^ q) : ∃ d e s : Nat, IntKind.u64.wrap (bits BinOp.and IntKind.u8 (y : Int) 127) = (d : Int) ∧ IntKind.u64.wrap ((d : Int) * 2 ^ (7 * q)) = (e : Int) ∧ bits BinOp.or IntKind.u64 (acc : Int) (e : Int) = (s : Int) ∧
    ((q < 9 ∨ y ≤ 1) → s = acc + y % 128 * 128 ^ q) := by
  have hp9 : 128 ^ q ≤ 9223372036854775808 := Nat.le_trans (Nat.pow_le_pow_right (by omega) hq) (by decide)
  have hpw : (2 : Nat) ^ (7 * q) = 128 ^ q := by rw [Nat.pow_mul]
  refine ⟨y % 128, y % 128 * 128 ^ q % 18446744073709551616, acc ||| (y % 128 * 128 ^ q % 18446744073709551616), ?_, ?_, ?_, ?_⟩
  · rw [andB y hy, u64_id (by omega)]
  · have : ((y % 128 : Nat) : Int) * 2 ^ (7 * q) = ((y % 128 * 128 ^ q : Nat) : Int) := by rw [← hpw]; push_cast; rfl
    rw [this]
    simp [IntKind.wrap, IntKind.signed, IntKind.bits]
  · exact or64 _ _ (by omega) (Nat.mod_lt _ (by omega))
  · intro h
    have hlt : y % 128 * 128 ^ q < 18446744073709551616 := by
      rcases h with h | h
      · have h8 : 128 ^ q ≤ 72057594037927936 := Nat.le_trans (Nat.pow_le_pow_right (by omega) (show q ≤ 8 by omega)) (by decide)
        have := Nat.mul_le_mul (show y % 128 ≤ 127 by omega) h8
        omega
      · have := Nat.mul_le_mul (show y % 128 ≤ 1 by omega) hp9
        omega
    have ha' : acc < 2 ^ (7 * q) := by rw [hpw]; exact ha
    rw [Nat.mod_eq_of_lt hlt, ← hpw, Nat.or_comm, Nat.mul_comm, ← Nat.two_pow_add_eq_or_of_lt ha', Nat.add_comm]
theorem acc_lt {acc q d : Nat} (ha : acc < 128 ^ q) (hd : d < 128) : acc + d * 128 ^ q < 128 ^ (q + 1) := by
  rw [Nat.pow_succ]
  have := Nat.mul_le_mul_right (128 ^ q) (show d ≤ 127 by omega)
  omega
theorem numGo_end (most i acc : Nat) : numGo most i acc [] = (0, [], 10) := rfl
theorem numGo_more {most i acc : Nat} {c : UInt8} {r : List UInt8} (h : 127 < c.toNat) (h9 : i ≠ 9) : numGo most i acc (c :: r) = numGo most (i + 1) (acc + c.toNat % 128 * 128 ^ i) r := by
  rw [numGo, if_neg (by omega), if_pos h]
theorem numGo_over {most i acc : Nat} {c : UInt8} {r : List UInt8} (h9 : i = 9) (h : 1 < c.toNat) : numGo most i acc (c :: r) = (0, [], 11) := by
  rw [numGo, if_pos ⟨h9, h⟩]
theorem numGo_bad {most i acc : Nat} {c : UInt8} {r : List UInt8} (h : c.toNat ≤ 127) (hb : (0 < i ∧ c.toNat = 0) ∨ most < acc + c.toNat * 128 ^ i) : numGo most i acc (c :: r) = (0, [], 11) := by
  rw [numGo]
  split
  · rfl
  · split
    · omega
    · rfl
theorem numGo_good {most i acc : Nat} {c : UInt8} {r : List UInt8} (h : c.toNat ≤ 127) (h9 : ¬ (i = 9 ∧ 1 < c.toNat)) (hb : ¬ ((0 < i ∧ c.toNat = 0) ∨ most < acc + c.toNat * 128 ^ i)) : numGo most i acc (c :: r) = (acc + c.toNat * 128 ^ i, r, 0) := by
  rw [numGo, if_neg h9, if_neg (by omega), if_neg hb]
section
variable {W w : World} {p : Nat} {bs : List UInt8} {e : Int} {L : List Asn}
end
end Go.Proofs.YtbbcepmhkocgbaaGreatDoor

/- Take, Bytes of codec's reader. -/
namespace Go.Proofs.YtbbcepmhkocgbaaGreatDoor
open Go.RowKit
set_option linter.unusedVariables false

def takeS (bs : List UInt8) (e n : Int) : List UInt8 × List UInt8 × Int :=
  if e ≠ 0 then ([], [], e) else if n < 0 then ([], [], 1) else if (bs.length : Int) < n then ([], [], 10) else (bs.take n.toNat, bs.drop n.toNat, 0)
section
variable {W w : World} {p : Nat} {bs : List UInt8} {e : Int} {L : List Asn}
/-- the number is at most what was asked -/
theorem numGo_le (most : Nat) : ∀ (bs : List UInt8) (i acc : Nat), (numGo most i acc bs).1 ≤ most
  | [], _, _ => Nat.zero_le _
  | c :: r, i, acc => by
    unfold numGo
    split
    · exact Nat.zero_le _
    · split
      · exact numGo_le most r _ _
      · split
        · exact Nat.zero_le _
        · rename_i h; show acc + c.toNat * 128 ^ i ≤ most; omega
theorem numS_le (bs : List UInt8) (e : Int) (most : Nat) : (numS bs e most).1 ≤ most := by
  unfold numS; split
  · exact numGo_le _ _ _ _
  · exact Nat.zero_le _
def mostN (m : Int) : Nat := m.toNat
def bytesS (bs : List UInt8) (e m : Int) : List UInt8 × List UInt8 × Int :=
  let r := numS bs e m.toNat
  takeS r.2.1 r.2.2 (r.1 : Int)
end
end Go.Proofs.YtbbcepmhkocgbaaGreatDoor

/- List of codec's reader; rows of byte slices appended to. -/
namespace Go.Proofs.YtbbcepmhkocgbaaGreatDoor
open Go.RowKit
set_option linter.unusedVariables false

/-- two objects as one -/
def aSep (A C : Asn) : Asn where
  at_ own w := ∃ o1 o2 : Nat → Prop, (∀ x, o1 x → own x) ∧ (∀ x, o2 x → own x) ∧ (∀ x, o1 x → ¬ o2 x) ∧ A.at_ o1 w ∧ C.at_ o2 w
  ext := fun ⟨o1, o2, h1, h2, h3, h4, h5⟩ hx hd => ⟨o1, o2, h1, h2, h3, A.ext h4 hx (fun b hb => hd b (h1 b hb)), C.ext h5 hx (fun b hb => hd b (h2 b hb))⟩
  bound := fun ⟨o1, o2, h1, h2, h3, h4, h5⟩ => ⟨_, _, fun x hx => ⟨h1 x hx.1, hx.2⟩, fun x hx => ⟨h2 x hx.1, hx.2⟩, fun x hx hy => h3 x hx.1 hy.1, A.bound h4, C.bound h5⟩
theorem St.unmerge {W w : World} {A C : Asn} {L : List Asn} (h : St W w (aSep A C :: L)) : St W w (A :: C :: L) := by
  obtain ⟨hb, own, h1, ⟨o1, o2, k1, k2, k3, k4, k5⟩, h3⟩ := h
  exact ⟨hb, o1, fun b hb' => h1 b (k1 b hb'), k4, o2, fun b hb' => ⟨⟨(h1 b (k2 b hb')).1, fun e => k3 b e hb'⟩, (h1 b (k2 b hb')).2⟩, k5, h3.mono (fun b _ hb' => ⟨⟨hb'.1, fun e => hb'.2 (k1 b e)⟩, fun e => hb'.2 (k2 b e)⟩)⟩
theorem takeS_len (bs : List UInt8) (e n : Int) : (takeS bs e n).2.1.length + (takeS bs e n).1.length ≤ bs.length := by
  unfold takeS
  split
  · simp
  · split
    · simp
    · split
      · simp
      · simp; omega
theorem numGo_len (most : Nat) : ∀ (bs : List UInt8) (i acc : Nat), (numGo most i acc bs).2.1.length ≤ bs.length ∧ ((numGo most i acc bs).2.2 = 0 → (numGo most i acc bs).2.1.length < bs.length)
  | [], _, _ => ⟨by simp [numGo], by simp [numGo]⟩
  | c :: r, i, acc => by
    have ih := numGo_len most r (i + 1) (acc + c.toNat % 128 * 128 ^ i)
    unfold numGo
    split
    · simp
    · split
      · exact ⟨by simp; omega, fun h => by have := ih.2 h; simp; omega⟩
      · split
        · simp
        · simp
theorem bytesS_len (bs : List UInt8) (m : Int) (h : (bytesS bs 0 m).2.2 = 0) : (bytesS bs 0 m).2.1.length + 1 ≤ bs.length := by
  unfold bytesS at h ⊢
  have h1 := numGo_len m.toNat bs 0 0
  simp only [numS, if_pos] at h ⊢
  generalize numGo m.toNat 0 0 bs = r at *
  have h2 := takeS_len r.2.1 r.2.2 (r.1 : Int)
  have : r.2.2 = 0 := by
    by_cases e : r.2.2 = 0
    · exact e
    · simp [takeS, e] at h
  have := h1.2 this
  omega
section
variable {W w : World} {p : Nat} {bs : List UInt8} {e : Int} {L : List Asn}
end
end Go.Proofs.YtbbcepmhkocgbaaGreatDoor

/- List of codec's reader. -/
namespace Go.Proofs.YtbbcepmhkocgbaaGreatDoor
open Go.RowKit
set_option linter.unusedVariables false

theorem numGo_pos (most : Nat) : ∀ (bs : List UInt8) (i acc : Nat), (numGo most i acc bs).2.2 ≠ 0 → (numGo most i acc bs).1 = 0
  | [], _, _ => fun _ => rfl
  | c :: r, i, acc => by
    have ih := numGo_pos most r (i + 1) (acc + c.toNat % 128 * 128 ^ i)
    unfold numGo
    split
    · simp
    · split
      · exact ih
      · split
        · simp
        · simp
theorem numS_pos (bs : List UInt8) (e : Int) (most : Nat) (h : 0 < (numS bs e most).1) : (numS bs e most).2.2 = 0 := by
  unfold numS at h ⊢
  by_cases he : e = 0
  · rw [if_pos he] at h ⊢
    by_cases h2 : (numGo most 0 0 bs).2.2 = 0
    · exact h2
    · have := numGo_pos most bs 0 0 h2; omega
  · rw [if_neg he] at h; simp at h
theorem numS_len (bs : List UInt8) (e : Int) (most : Nat) : (numS bs e most).2.1.length ≤ bs.length := by
  unfold numS; split
  · exact (numGo_len _ _ _ _).1
  · exact Nat.le_refl _
theorem bytesS_all (bs : List UInt8) (e m : Int) : (bytesS bs e m).2.1.length + (bytesS bs e m).1.length ≤ bs.length := by
  unfold bytesS
  exact Nat.le_trans (takeS_len _ _ _) (numS_len _ _ _)
section
variable {W w : World} {p : Nat} {bs : List UInt8} {e : Int} {L : List Asn}
end
end Go.Proofs.YtbbcepmhkocgbaaGreatDoor

/- The reference's reader. -/
namespace Go.Proofs.YtbbcepmhkocgbaaGreatDoor
open Go.RowKit
set_option linter.unusedVariables false

section
variable {W w : World} {p : Nat} {bs : List UInt8} {e : Int} {L : List Asn}
end
end Go.Proofs.YtbbcepmhkocgbaaGreatDoor

/- Num of the reference's reader. -/
namespace Go.Proofs.YtbbcepmhkocgbaaGreatDoor
open Go.RowKit
set_option linter.unusedVariables false

theorem refStep (acc q y bv : Nat) (hq : q ≤ 9) (ha : acc < 128 ^ q) (hb : bv = 128 ^ q) : ∃ e1 s b2 : Nat, IntKind.u64.wrap ((y : Int) % 128 * (bv : Int)) = (e1 : Int) ∧ IntKind.u64.wrap ((acc : Int) + (e1 : Int)) = (s : Int) ∧ IntKind.u64.wrap ((bv : Int) * 128) = (b2 : Int) ∧
    ((q < 9 ∨ y ≤ 1) → s = acc + y % 128 * 128 ^ q) ∧ (q < 9 → b2 = 128 ^ (q + 1)) := by
  have hp9 : 128 ^ q ≤ 9223372036854775808 := Nat.le_trans (Nat.pow_le_pow_right (by omega) hq) (by decide)
  have wrapN : ∀ k : Nat, IntKind.u64.wrap (k : Int) = ((k % 18446744073709551616 : Nat) : Int) := fun k => by simp [IntKind.wrap, IntKind.signed, IntKind.bits]
  refine ⟨y % 128 * bv % 18446744073709551616, (acc + y % 128 * bv % 18446744073709551616) % 18446744073709551616, bv * 128 % 18446744073709551616, ?_, ?_, ?_, ?_, ?_⟩
  · rw [show (y : Int) % 128 * (bv : Int) = ((y % 128 * bv : Nat) : Int) by push_cast; rfl]; exact wrapN _
  · rw [← Int.natCast_add]; exact wrapN _
  · rw [show (bv : Int) * 128 = ((bv * 128 : Nat) : Int) by push_cast; rfl]; exact wrapN _
  · intro h
    subst hb
    have hlt : acc + y % 128 * 128 ^ q < 18446744073709551616 := by
      rcases h with h | h
      · have h8 : 128 ^ q ≤ 72057594037927936 := Nat.le_trans (Nat.pow_le_pow_right (by omega) (show q ≤ 8 by omega)) (by decide)
        have := Nat.mul_le_mul (show y % 128 ≤ 127 by omega) h8
        omega
      · have := Nat.mul_le_mul (show y % 128 ≤ 1 by omega) hp9
        omega
    rw [Nat.mod_eq_of_lt (show y % 128 * 128 ^ q < 18446744073709551616 by omega), Nat.mod_eq_of_lt hlt]
  · intro h
    subst hb
    have h8 : 128 ^ q ≤ 72057594037927936 := Nat.le_trans (Nat.pow_le_pow_right (by omega) (show q ≤ 8 by omega)) (by decide)
    rw [Nat.mod_eq_of_lt (by omega), Nat.pow_succ]
section
variable {W w : World} {p : Nat} {bs : List UInt8} {e : Int} {L : List Asn}
end
end Go.Proofs.YtbbcepmhkocgbaaGreatDoor

/- Take, Bytes, List of the reference's reader. -/
namespace Go.Proofs.YtbbcepmhkocgbaaGreatDoor
open Go.RowKit
set_option linter.unusedVariables false

section
variable {W w : World} {p : Nat} {bs : List UInt8} {e : Int} {L : List Asn}
end
end Go.Proofs.YtbbcepmhkocgbaaGreatDoor

/- What is put is read back, and what is read was put. Plain. -/
namespace Go.Proofs.YtbbcepmhkocgbaaGreatDoor
set_option linter.unusedVariables false

theorem ofNat_toNat (c : UInt8) : UInt8.ofNat c.toNat = c := by simp
theorem num_read (most : Nat) : ∀ (bs : List UInt8) (i acc v : Nat) (rest : List UInt8), numGo most i acc bs = (v, rest, 0) → ∃ d, v = acc + d * 128 ^ i ∧ bs = enc d ++ rest ∧ (0 < i → 0 < d)
  | [], i, acc, v, rest, h => by simp [numGo] at h
  | c :: r, i, acc, v, rest, h => by
    have hc := c.toNat_lt
    unfold numGo at h
    split at h
    · simp at h
    · split at h
      · rename_i h2
        obtain ⟨d, h3, h4, h5⟩ := num_read most r _ _ v rest h
        have hd := h5 (by omega)
        refine ⟨c.toNat % 128 + 128 * d, ?_, ?_, fun _ => by omega⟩
        · rw [h3, Nat.pow_succ, Nat.add_mul]
          have : d * (128 ^ i * 128) = 128 * d * 128 ^ i := by rw [Nat.mul_comm (128 ^ i) 128, ← Nat.mul_assoc, Nat.mul_comm d 128]
          omega
        · rw [enc_ge (by omega), show (c.toNat % 128 + 128 * d) % 128 + 128 = c.toNat by omega, show (c.toNat % 128 + 128 * d) / 128 = d by omega, ofNat_toNat, h4]
          rfl
      · split at h
        · simp at h
        · rename_i h1 h2 h3
          simp only [Prod.mk.injEq] at h
          refine ⟨c.toNat, h.1.symm, ?_, fun hi => by omega⟩
          rw [enc_lt (by omega), ofNat_toNat, h.2.1]
          rfl
theorem num_put (most : Nat) : ∀ (d i acc : Nat) (rest : List UInt8), i ≤ 9 → d * 128 ^ i < 18446744073709551616 → (0 < i → 0 < d) → acc + d * 128 ^ i ≤ most → numGo most i acc (enc d ++ rest) = (acc + d * 128 ^ i, rest, 0) := by
  intro d
  induction d using Nat.strongRecOn with
  | ind d ih =>
    intro i acc rest hi hb h0 hm
    have e9 : (128 : Nat) ^ 9 = 9223372036854775808 := by decide
    by_cases hd : d < 128
    · rw [enc_lt hd]
      have hc : (UInt8.ofNat d).toNat = d := by rw [UInt8.toNat_ofNat']; omega
      have h9 : ¬ (i = 9 ∧ 1 < (UInt8.ofNat d).toNat) := by
        rw [hc]
        rintro ⟨rfl, h⟩
        have := Nat.mul_le_mul_right (128 ^ 9) h
        omega
      show numGo most i acc (UInt8.ofNat d :: rest) = _
      rw [numGo_good (by rw [hc]; omega) h9 (by rw [hc]; rintro (h | h) <;> omega), hc]
    · rw [enc_ge hd]
      have hc : (UInt8.ofNat (d % 128 + 128)).toNat = d % 128 + 128 := by rw [UInt8.toNat_ofNat']; omega
      have h9 : i ≠ 9 := by
        rintro rfl
        have := Nat.mul_le_mul_right (128 ^ 9) (show 128 ≤ d by omega)
        omega
      show numGo most i acc (UInt8.ofNat (d % 128 + 128) :: (enc (d / 128) ++ rest)) = _
      have hs : d % 128 * 128 ^ i + d / 128 * 128 ^ (i + 1) = d * 128 ^ i := by
        rw [Nat.pow_succ, Nat.mul_comm (128 ^ i) 128, ← Nat.mul_assoc, ← Nat.add_mul]
        congr 1; omega
      rw [numGo_more (by rw [hc]; omega) h9, hc, show (d % 128 + 128) % 128 = d % 128 by omega, ih (d / 128) (by omega) (i + 1) _ rest (by omega) (by omega) (fun _ => by omega) (by omega)]
      rw [Nat.add_assoc, hs]
theorem numS_put {most d : Nat} {rest : List UInt8} (hb : d < 18446744073709551616) (hm : d ≤ most) : numS (enc d ++ rest) 0 most = (d, rest, 0) := by
  unfold numS
  rw [if_pos rfl, num_put most d 0 0 rest (by omega) (by simpa using hb) (fun h => by omega) (by simpa using hm)]
  simp
theorem numS_read {bs : List UInt8} {most v : Nat} {rest : List UInt8} (h : numS bs 0 most = (v, rest, 0)) : bs = enc v ++ rest := by
  unfold numS at h
  rw [if_pos rfl] at h
  obtain ⟨d, h1, h2, _⟩ := num_read most bs 0 0 v rest h
  rw [h2, h1]; simp
theorem takeS_read {bs : List UInt8} {n : Nat} {x rest : List UInt8} (h : takeS bs 0 (n : Int) = (x, rest, 0)) : bs = x ++ rest ∧ x.length = n := by
  unfold takeS at h
  rw [if_neg (by simp), if_neg (by omega)] at h
  split at h
  · simp at h
  · rename_i hl
    simp only [Prod.mk.injEq, Int.toNat_natCast] at h
    obtain ⟨rfl, rfl, _⟩ := h
    exact ⟨by rw [List.take_append_drop], by simp; omega⟩
theorem takeS_put {x rest : List UInt8} : takeS (x ++ rest) 0 (x.length : Int) = (x, rest, 0) := by
  unfold takeS
  rw [if_neg (by simp), if_neg (by omega), if_neg (by simp; omega)]
  simp
theorem bytesS_read {bs : List UInt8} {m : Int} {x rest : List UInt8} (h : bytesS bs 0 m = (x, rest, 0)) : bs = enc x.length ++ x ++ rest := by
  unfold bytesS at h
  obtain ⟨r, hr⟩ : ∃ r, numS bs 0 m.toNat = r := ⟨_, rfl⟩
  obtain ⟨v, b1, e1⟩ := r
  simp only [hr] at h
  have he : e1 = 0 := by
    by_cases e : e1 = 0
    · exact e
    · simp [takeS, e] at h
  subst he
  obtain ⟨h1, h2⟩ := takeS_read h
  rw [numS_read hr, h1, h2, List.append_assoc]
theorem bytesS_put {m : Int} {x rest : List UInt8} (hb : x.length < 18446744073709551616) (hm : (x.length : Int) ≤ m) : bytesS (enc x.length ++ x ++ rest) 0 m = (x, rest, 0) := by
  unfold bytesS
  rw [List.append_assoc, numS_put hb (by omega)]
  exact takeS_put
end Go.Proofs.YtbbcepmhkocgbaaGreatDoor
