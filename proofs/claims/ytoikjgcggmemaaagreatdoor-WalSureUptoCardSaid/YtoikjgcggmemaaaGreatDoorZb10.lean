/- Lemmas and contracts, part 10. -/
import Derived.Test.YtoikjgcggmemaaaGreatDoorZb9
import Derived.Maps.RangeWalk
import Derived.Deep.RegionHeld3
/- The loop over a disk's files; how many bytes there are; a file's bytes. -/
namespace Go.Proofs.YtoikjgcggmemaaaGreatDoor
open Go.RowKit Go.Maps Go.Deep
set_option linter.unusedVariables false

set_option maxHeartbeats 400000 in
theorem sclone_c {w : World} {v : Value} {bs : List UInt8} (h : Bs w v bs) : Calls Tryz.prog 8 #[v] w (ClonePost w bs) := by
  rcases h.isNil with ⟨rfl, rfl⟩ | ⟨ad, cap, rfl⟩
  · have q : ∀ w, (binOp .eql 32 (.slice none 0 0) (.slice none 0 0)).run Tryz.prog w = .ok (.bool true) w := fun w => by kernel_rfl
    have E := Lib.hid (show ClonePost w [] (.returned (.slice none 0 0)) w from ⟨_, rfl, ownNil w _ _ _, Below.refl _ _⟩)
    clear h
    go_enter Tryz.func8, Tryz.ntmps8
    go_wp2
    go_ret
    exact E.out
  · have q : ∀ w, (binOp .eql 32 (.slice (some ad) bs.length cap) (.slice none 0 0)).run Tryz.prog w = .ok (.bool false) w := fun w => by kernel_rfl
    have hb : B w (w.alloc (.cells #[] 5)) := B.alloc' _ _
    have ho : (w.alloc (.cells #[] 5)).ownsRow w.heap.size 5 1 (.slice (some ⟨w.heap.size, 0, none⟩) 0 0) ([] : List UInt8).length (cellsB []) := ⟨rfl, .inr ⟨_, 0, #[], rfl, Nat.le_refl _, heap_alloc_new w _, Nat.le_refl _, by unfold maxLen; omega, rfl, rfl⟩⟩
    obtain ⟨v', w', hrun, h2, h3, h4⟩ := append_Bs (P := Tryz.prog) (t := 32) (ty := 47) Tryz.underlying32 info5 ho (h.later hb) (by have := h.len; simpa using this) (by simp)
    have E := Lib.hid (show ClonePost w bs (.returned v') w' from ⟨_, rfl, h2, hb.grown h3 (fun k hk => by simp [Value.ownBlock] at hk; omega)⟩)
    clear h ho h2 h3 h4 hb
    go_enter Tryz.func8, Tryz.ntmps8
    go_wp2_with (at_builtin; refine wpList_append_run rfl (.tmp 5) (.tmp 6) 32 rfl rfl rfl hrun ?_)
    go_ret
    exact E.out

theorem has_dOf {E : List (Fl × Nat)} {kl : Lit} (h : has (dOf E) kl = true) : ∃ (i : Nat) (x : Fl × Nat), E[i]? = some x ∧ kl = .string x.1.nm := by
  obtain ⟨p, hp, hk⟩ := List.any_eq_true.1 (show (E.map entOf).any (fun p => p.1.sameKey kl) = true from h)
  obtain ⟨x, hx, rfl⟩ := List.mem_map.1 hp
  obtain ⟨i, hi, e⟩ := List.mem_iff_getElem.1 hx
  exact ⟨i, x, by rw [List.getElem?_eq_getElem hi, e], (WideAt.sameKey_eq hk).symm⟩
theorem has_mem {E : List (Fl × Nat)} {x : Fl × Nat} (h : x ∈ E) : has (dOf E) (.string x.1.nm) = true :=
  List.any_eq_true.2 ⟨entOf x, List.mem_map.2 ⟨x, h, rfl⟩, by simp [entOf, same_str]⟩
theorem ix_self {E : List (Fl × Nat)} (hs : (flsOf E).Pairwise (fun a b => bytesBefore a.nm b.nm = true)) {i : Nat} {x : Fl × Nat} (h : E[i]? = some x) : ixF x.1.nm (flsOf E) = some i := by
  cases hi : ixF x.1.nm (flsOf E) with
  | none => exact absurd rfl (ixF_none hi x.1 (List.mem_map.2 ⟨x, List.mem_of_getElem? h, rfl⟩))
  | some k =>
    obtain ⟨f, h1, h2, h3⟩ := ixF_some hi
    have hf : (flsOf E)[i]? = some x.1 := by simp [flsOf, h]
    rcases Nat.lt_trichotomy i k with hk | hk | hk
    · exact absurd rfl (h3 i hk x.1 hf)
    · rw [hk]
    · have hl1 : k < (flsOf E).length := by
        rcases Nat.lt_or_ge k (flsOf E).length with h' | h'
        · exact h'
        · rw [List.getElem?_eq_none h'] at h1; cases h1
      have hl2 : i < (flsOf E).length := by
        rcases Nat.lt_or_ge i (flsOf E).length with h' | h'
        · exact h'
        · rw [List.getElem?_eq_none h'] at hf; cases hf
      have := (List.pairwise_iff_getElem.1 hs) k i hl1 hl2 hk
      rw [List.getElem?_eq_getElem hl1] at h1
      rw [List.getElem?_eq_getElem hl2] at hf
      rw [Option.some.inj h1, Option.some.inj hf, h2, bb_irr] at this
      cases this
/-- a block known as an object -/
def aObj (r : Nat) (o : Obj) : Asn where
  at_ own w := own r ∧ w.heap[r]? = some o
  ext h hx hd := ⟨h.1, (hx.block r (Array.getElem?_eq_some_iff.1 h.2).1 (hd _ h.1)).trans h.2⟩
  bound h := ⟨⟨h.1, (Array.getElem?_eq_some_iff.1 h.2).1⟩, h.2⟩
/-- what an iterator over an old map says -/
def Rng (W : World) (m r : Nat) (E : List (Fl × Nat)) (left : Lit → Bool) (cnt : Nat) (it : Obj) : Prop :=
  ∀ w' : World, w'.heap[m]? = W.heap[m]? → w'.heap[r]? = some it → ∃ n, w'.ranges Tryz.prog 9 ptrElem m r n (dOf E) left cnt
section
variable {W w : World} {ops : Array Oper} {rest : List Oper} {o : Oper} {a : Act} {Q : Exit → Act → World → Prop} {L : List Asn} {m r cnt : Nat} {E : List (Fl × Nat)} {left : Lit → Bool} {it : Obj}
theorem aObj.get (h : St W w (aObj r it :: L)) : w.heap[r]? = some it := by
  obtain ⟨own, h1, _⟩ := h.get
  exact h1.2
theorem Rng.of {w1 : World} {n : Nat} (h : w1.ranges Tryz.prog 9 ptrElem m r n (dOf E) left cnt) (hm : w1.heap[m]? = W.heap[m]?) : ∃ it, w1.heap[r]? = some it ∧ Rng W m r E left cnt it := by
  obtain ⟨es, clock, since, seen, c0, hb, F, hs, hD, hr, rest⟩ := h
  exact ⟨_, hr, fun w' h1 h2 => ⟨n, es, clock, since, seen, c0, by rw [h1, ← hm]; exact hb, F, hs, hD, h2, rest⟩⟩
theorem Rng.left_ (hR : Rng W m r E left cnt it) (hm : m < W.heap.size) (h : St W w (aObj r it :: L)) : w.rangeLeft m r = cnt := by
  obtain ⟨n, hn⟩ := hR w (h.b.block m hm) (aObj.get h)
  exact hn.left_eq
theorem wpList_range_R (hg : o.guard = none) (x : Operand) (hop : o.op = Op.range 47 x) {n : Nat} (hmap : W.ownsMap Tryz.prog 9 ptrElem m n (dOf E)) (hx : a.eval x = .map (some m)) (h : St W w L)
    (hK : ∀ w' it, Rng W m w.heap.size E (has (dOf E)) (size (dOf E)) it → St W w' (aObj w.heap.size it :: L) → wpList Tryz.prog ops Q rest (a.put o.dst (.pointer (some ⟨w.heap.size, 0, none⟩))) w') :
    wpList Tryz.prog ops Q (o :: rest) a w := by
  refine wpList_plain hg fun K' hK' => ?_
  have hm := hmap.lt
  have hmap' : w.ownsMap Tryz.prog 9 ptrElem m n (dOf E) := by
    obtain ⟨es, clock, hb, r⟩ := hmap
    exact ⟨es, clock, (h.b.block m hm).trans hb, r⟩
  obtain ⟨w', hrun, r1, r2, r3⟩ := hmap'.range strLaw Tryz.underlying47
  have hB : B w w' := (Ext.of_grown (own := fun _ => False) r2 (fun g hg => by cases hg)).to_B (fun _ _ => id)
  obtain ⟨it, k1, k2⟩ := Rng.of (W := W) r1 ((hB.block m (Nat.lt_of_lt_of_le hm h.b.size)).trans (h.b.block m hm))
  unfold Oper.wp
  simp [execOp, hop, hx, hrun, Result.andThen]
  exact hK' _ _ (hK w' it k2 (h.add hB (A := aObj w.heap.size it) (own := fun b => b = w.heap.size) ⟨rfl, k1⟩ (fun x e => by omega)))
/-- the loop's step over a disk's map -/
theorem wpList_next_R (hg : o.guard = none) (x0 : Operand) (hop : o.op = Op.next x0 false) (hs : (flsOf E).Pairwise (fun a b => bytesBefore a.nm b.nm = true)) (hle : ∀ kl, left kl = true → has (dOf E) kl = true) (hm : m < W.heap.size)
    (hit : a.eval x0 = .pointer (some ⟨r, 0, none⟩)) (hR : Rng W m r E left cnt it) (h : St W w (aObj r it :: L))
    (hDone : (∀ kl, left kl = false) → wpList Tryz.prog ops Q rest (a.put o.dst (.tuple #[.bool false])) w)
    (hMore : ∀ (i : Nat) (x : Fl × Nat) (w' : World) (cnt' : Nat) (it' : Obj), E[i]? = some x → left (.string x.1.nm) = true → Rng W m r E (fun z => left z && !z.sameKey (.string x.1.nm)) cnt' it' → St W w' (aObj r it' :: L) → cnt' < cnt →
      (Instr.entry (.pointer (some ⟨r, 0, none⟩))).run Tryz.prog w' = .ok (.tuple #[.string (bstr x.1.nm), .pointer (some ⟨x.2, 0, none⟩)]) w' →
      wpList Tryz.prog ops Q rest (a.put o.dst (.tuple #[.bool true, .string (bstr x.1.nm), .pointer (some ⟨x.2, 0, none⟩)])) w') :
    wpList Tryz.prog ops Q (o :: rest) a w := by
  refine wpList_plain hg fun K' hK' => ?_
  unfold Oper.wp
  obtain ⟨n, hn⟩ := hR w (h.b.block m hm) (aObj.get h)
  rcases hn.next strLaw o.type with ⟨h0, hl, hrun⟩ | ⟨key, v, kl, y, w', cnt', hkey, hlk, hv, hat, hrun, hrg, hlt, hgr, hsz, hen⟩
  · simp [execOp, hop, hit, hrun, Result.andThen]
    exact hK' _ _ (hDone hl)
  · obtain ⟨i, x, hx, rfl⟩ := has_dOf (hle kl hlk)
    obtain ⟨k, e1, e2, _⟩ := Maps.keyOf_str Tryz.underlying9 hkey
    have e2 := (Lit.string.inj e2).symm
    subst e2
    obtain ⟨z, k1, _, k3⟩ := dOf_at (ix_self hs hx)
    rw [hx] at k1
    have k1 := Option.some.inj k1
    have e3 : y.1 = .lit (.int .i64 (x.2 : Int)) := by rw [← hat .nil, k3, ← k1]
    have e4 : v = .pointer (some ⟨x.2, 0, none⟩) := ptrElem_inv (g := x.2) (ps := y.2) (by rw [hv, ← e3])
    subst e4
    have e5 : key = .string (bstr x.1.nm) := e1
    subst e5
    obtain ⟨own, ⟨h1, h2⟩, ho, hback⟩ := h.focus
    have hne : m ≠ r := by have := (ho r h1).1; omega
    obtain ⟨it', k4, k5⟩ := Rng.of (W := W) hrg ((hgr.block m (Nat.lt_of_lt_of_le hm h.b.size) (fun e => hne (by injection e))).trans (h.b.block m hm))
    have hS := hback w' (aObj r it') (Ext.of_grown hgr (fun g hg => by injection hg with hg; rw [← hg]; exact h1)) ⟨.inl h1, k4⟩
    simp [execOp, hop, hit, hrun, Result.andThen]
    exact hK' _ _ (hMore i x w' cnt' it' hx hlk k5 hS hlt hen)
end
/-- how many bytes the files have that came -/
def goneF (left : Lit → Bool) (E : List (Fl × Nat)) : Nat := (E.map (fun x => cond (left (.string x.1.nm)) 0 x.1.b.length)).sum
theorem gone_start (E : List (Fl × Nat)) : goneF (has (dOf E)) E = 0 := by
  have h : ∀ E' : List (Fl × Nat), (∀ x ∈ E', x ∈ E) → (E'.map (fun x => cond (has (dOf E) (.string x.1.nm)) 0 x.1.b.length)).sum = 0 := by
    intro E'
    induction E' with
    | nil => intro _; rfl
    | cons x r ih =>
      intro hx
      rw [List.map_cons, List.sum_cons, ih (fun y hy => hx y (List.mem_cons_of_mem _ hy)), has_mem (hx x (by simp))]; rfl
  exact h E (fun x hx => hx)
theorem gone_end {left : Lit → Bool} (h : ∀ kl, left kl = false) (E : List (Fl × Nat)) : goneF left E = usedF (flsOf E) := by
  unfold goneF usedF flsOf
  rw [List.map_map]
  congr 1
  apply List.map_congr_left
  intro x _
  simp [h]
theorem gone_step {left : Lit → Bool} : ∀ {E : List (Fl × Nat)} {i : Nat} {x : Fl × Nat}, (flsOf E).Pairwise (fun a b => bytesBefore a.nm b.nm = true) → E[i]? = some x → left (.string x.1.nm) = true → goneF (fun z => left z && !z.sameKey (.string x.1.nm)) E = goneF left E + x.1.b.length
  | [], i, x, _, h, _ => by simp at h
  | y :: r, i, x, hs, h, hl => by
    unfold goneF
    simp only [List.map_cons, List.sum_cons, same_str]
    simp only [flsOf, List.map_cons, List.pairwise_cons] at hs
    cases i with
    | zero =>
      simp at h
      subst h
      have e : r.map (fun z => cond (left (.string z.1.nm) && !(z.1.nm == y.1.nm)) 0 z.1.b.length) = r.map (fun z => cond (left (.string z.1.nm)) 0 z.1.b.length) := by
        apply List.map_congr_left
        intro z hz
        have : (z.1.nm == y.1.nm) = false := by
          rw [beq_eq_false_iff_ne]
          intro e
          have := hs.1 z.1 (List.mem_map.2 ⟨z, hz, rfl⟩)
          rw [e, bb_irr] at this; cases this
        rw [this]; simp
      rw [e]
      simp [hl]; omega
    | succ i =>
      have hx : r[i]? = some x := by simpa using h
      have ih := gone_step (left := left) hs.2 hx hl
      unfold goneF at ih
      simp only [same_str] at ih
      rw [ih]
      have : (y.1.nm == x.1.nm) = false := by
        rw [beq_eq_false_iff_ne]
        intro e
        have := hs.1 x.1 (List.mem_map.2 ⟨x, List.mem_of_getElem? hx, rfl⟩)
        rw [e, bb_irr] at this; cases this
      rw [this]; simp; omega
theorem gone_le {left : Lit → Bool} : ∀ E : List (Fl × Nat), goneF left E ≤ usedF (flsOf E)
  | [] => Nat.le_refl _
  | x :: r => by
    have := gone_le (left := left) r
    unfold goneF usedF flsOf at this ⊢
    simp only [List.map_cons, List.sum_cons]
    cases left (.string x.1.nm) <;> simp only [cond_true, cond_false] <;> omega
section
variable {W w : World} {p m : Nat} {d : Dk} {E : List (Fl × Nat)} {X : List Asn} {n : List UInt8}
theorem aFile.cells {x : Fl × Nat} (h : St W w (aFile x :: X)) : ∃ A c, w.cell? ⟨x.2, 0, none⟩ = some (.slice A x.1.b.length c) ∧ w.cell? ⟨x.2, 1, none⟩ = some (.int .i64 (x.1.sure : Int)) := by
  obtain ⟨v, h1, h2⟩ := aFile.get h
  obtain ⟨A, c, rfl⟩ := own_slice h2
  have c0 := h1.cell 0
  have c1 := h1.cell 1
  simp at c0 c1
  exact ⟨A, c, c0, c1⟩
theorem rest.pick {L : List Asn} {i : Nat} {x : Fl × Nat} (h : St W w (L ++ (E.map aFile ++ X))) (hx : E[i]? = some x) : ∃ Y, St W w (aFile x :: Y) := by
  refine ⟨L ++ ((E.take i ++ E.drop (i + 1)).map aFile ++ X), h.perm ?_⟩
  have h1 := (perm_pick (L := E.map aFile) (i := i) (a := aFile x) (by rw [List.getElem?_map, hx]; rfl)).append_right X
  rw [← List.map_take, ← List.map_drop, ← List.map_append] at h1
  simp only [List.cons_append] at h1
  exact (h1.append_left L).trans List.perm_middle
set_option maxRecDepth 20000 in
set_option maxHeartbeats 2000000 in
theorem used_c (h : St W w (dkL p m d E ++ X)) (hE : DkE d (m, E)) : Calls Tryz.prog 63 #[.pointer (some ⟨p, 0, none⟩)] w fun e w' => e = .returned (.int .i64 (usedF d.R : Int)) ∧ B w w' := by
  have hb := dkL.blk h
  have c1 := hb.cell 1
  simp at c1
  have HN := Lib.hid (none_c hb)
  have hs := hE.1.rise
  rw [← hE.2] at hs
  have HS := Lib.hid hs
  have hu : usedF (flsOf E) ≤ 4194304 := by rw [hE.2]; have := hE.1.used; have := hE.1.room; omega
  have HU := Lib.hid hu
  rw [← hE.2]
  obtain ⟨n0, hmap⟩ := aMap.get h.swap
  have HM := Lib.hid hmap
  have HML := Lib.hid hmap.lt
  have HF := Lib.hid (show ∀ (w' : World) (i : Nat) (x : Fl × Nat), B w w' → E[i]? = some x → ∃ A c, w'.cell? ⟨x.2, 0, none⟩ = some (.slice A x.1.b.length c) from fun w' i x hb hx => by
    obtain ⟨Y, hY⟩ := rest.pick (L := [_, _]) h hx
    obtain ⟨A, c, k1, _⟩ := aFile.cells hY
    exact ⟨A, c, hb.cell k1⟩)
  clear h hE hb hmap hs
  go_enter Tryz.func63, Tryz.ntmps63
  go_wp2_with (first
    | (go_at_call 38; (with_reducible refine HN.out.mono ?_); rintro e w1 ⟨rfl, rfl⟩)
    | (at_range; refine wpList_range_R rfl (.tmp 11) rfl HM.out rfl (St.nil _) ?_; intro w1 it1 hR hS; have HR1 := Lib.hid hR; have HS1 := Lib.hid hS; clear hR hS))
  go_frame
  go_loopw [3] (fun s wr => ∃ (left : Lit → Bool) (cnt : Nat) (it : Obj), s = .int .i64 (goneF left E : Int) ∧ Hid (∀ kl, left kl = true → has (dOf E) kl = true) ∧ Hid (Rng w m w.heap.size E left cnt it) ∧ Hid (St w wr [aObj w.heap.size it])) (fun _ wr => wr.rangeLeft m w.heap.size)
  case atStart => exact ⟨_, _, it1, by rw [gone_start]; rfl, fun kl h => h, HR1.out, HS1.out⟩
  case round =>
    obtain ⟨left, cnt, it, rfl, HL, HR, HW⟩ := hrel
    have HG := Lib.hid (gone_le (left := left) E)
    have hg : (goneF left E : Int) ≤ 4194304 := by have := HG.out; omega
    have HLe := Lib.hid (HR.out.left_ HML.out HW.out)
    clear HR1 HS1
    go_wp2_with (first
      | (at_next; refine wpList_next_R rfl (.tmp 12) rfl HS.out HL.out HML.out rfl HR.out HW.out ?_ ?_))
    · intro hl
      have E1 := Lib.hid (gone_end hl E)
      go_wp2
      go_ret
      exact ⟨retI (by rw [E1.out]), HW.out.b⟩
    · intro i y g w2 cnt2 it2 hx hlx hR2 hS2 hlt hen
      have HX := Lib.hid hx
      obtain ⟨A, c, hc⟩ := HF.out w2 i (y, g) hS2.b hx
      have E1 := Lib.hid (gone_step HS.out hx hlx)
      have HR2 := Lib.hid hR2
      have HS2 := Lib.hid hS2
      have HLT := Lib.hid hlt
      have HG2 := Lib.hid (gone_le (left := fun z => left z && !z.sameKey (.string y.nm)) E)
      have hg2 : (goneF left E : Int) + (y.b.length : Int) ≤ 4194304 := by have := HG2.out; rw [E1.out] at this; simp only at this; omega
      simp only at hc hg2 hen
      clear hx hlx hR2 hS2 hlt
      go_wp2
      go_roundw
      case rel => exact ⟨_, cnt2, it2, by rw [E1.out]; go_num, fun kl hk => HL.out kl (by simp at hk; exact hk.1), HR2.out, HS2.out⟩
      case measure => rw [HR2.out.left_ HML.out HS2.out, HLe.out]; exact HLT.out
end
end Go.Proofs.YtoikjgcggmemaaaGreatDoor

/- Room, Synced, Get, Sync, Restart, Append of a disk. -/
namespace Go.Proofs.YtoikjgcggmemaaaGreatDoor
open Go.RowKit Go.Maps Go.Deep
set_option linter.unusedVariables false

section
variable {W w : World} {p m : Nat} {d : Dk} {E : List (Fl × Nat)} {X : List Asn} {n : List UInt8}
theorem turn_open {i : Nat} {x : Fl × Nat} (h : St W w (dkL p m d E ++ X)) (hi : E[i]? = some x) : ∃ A c,
    St W w (aBlk x.2 76 #[.slice A x.1.b.length c, .int .i64 (x.1.sure : Int)] :: aRow 5 1 (.slice A x.1.b.length c) x.1.b.length (cellsB x.1.b) :: aBlk p 49 #[.int .i64 d.room, .map (some m), .bool d.off] :: aMap Tryz.prog 9 m (dOf E) :: ((E.take i ++ E.drop (i + 1)).map aFile ++ X)) := by
  obtain ⟨v, hv⟩ := aFile.open_ (dkL.pick h hi)
  obtain ⟨A, c, rfl⟩ := St.rowSlice hv.swap
  exact ⟨A, c, hv⟩
theorem set_fls {i : Nat} (y : Fl × Nat) : flsOf (E.set i y) = (flsOf E).set i y.1 := by simp [flsOf, List.map_set]
theorem turn_back {i : Nat} {x : Fl × Nat} {v : Value} {f' : Fl} (hE : DkE d (m, E)) (hi : E[i]? = some x) (hn : f'.nm = x.1.nm) (hok : ({ d with R := d.R.set i f' } : Dk).ok)
    (h : St W w (aBlk x.2 76 #[v, .int .i64 (f'.sure : Int)] :: aRow 5 1 v f'.b.length (cellsB f'.b) :: aBlk p 49 #[.int .i64 d.room, .map (some m), .bool d.off] :: aMap Tryz.prog 9 m (dOf E) :: ((E.take i ++ E.drop (i + 1)).map aFile ++ X))) :
    St W w (aDisk p { d with R := d.R.set i f' } :: X) := by
  have h1 := aFile.shut (x := (f', x.2)) h
  have h2 := dkL.unpick (d := d) (d' := { d with R := d.R.set i f' }) (y := (f', x.2)) hi ⟨rfl, rfl⟩ hn rfl h1
  exact aDisk.shut (E := E.set i (f', x.2)) ⟨hok, by rw [set_fls, hE.2]⟩ h2
theorem turn_some {i : Nat} {e : Int} {f : Fl} {g : Fl → Int × Fl} (hm : mayF d n = (some i, e)) (hf : d.R[i]? = some f) : turnF d n g = ((g f).1, { d with R := d.R.set i (g f).2 }) := by
  unfold turnF; rw [hm]; simp only; rw [hf]
theorem turn_none {e : Int} {g : Fl → Int × Fl} (hm : mayF d n = (none, e)) : turnF d n g = (e, d) := by
  unfold turnF; rw [hm]
theorem room_c (h : St W w (dkL p m d E ++ X)) (hE : DkE d (m, E)) : Calls Tryz.prog 52 #[.pointer (some ⟨p, 0, none⟩)] w fun e w' => e = .returned (.int .i64 (d.room - (usedF d.R : Int))) ∧ B w w' := by
  have hb := dkL.blk h
  have HN := Lib.hid (none_c hb)
  have l0 : ∀ w', B w w' → w'.cell? ⟨p, 0, none⟩ = some (.int .i64 d.room) := fun w' h => h.cell (by have := hb.cell 0; simpa using this)
  have HU := Lib.hid (fun w' (hw : B w w') => used_c (h.later hw) hE)
  have hr := hE.1.room
  have hu := hE.1.used
  obtain ⟨hr1, hr2⟩ := hr
  have hu0 : (0 : Int) ≤ (usedF d.R : Int) := by omega
  have hq : IntKind.i64.wrap (d.room - (usedF d.R : Int)) = d.room - (usedF d.R : Int) := by simp [IntKind.wrap, IntKind.signed, IntKind.bits]; omega
  clear h hE hb
  go_enter Tryz.func52, Tryz.ntmps52
  go_wp2_with (first | (go_at_call 38; (with_reducible refine HN.out.mono ?_); rintro e w1 ⟨rfl, rfl⟩))
  go_region_held3 (fun w' => B w w') (first | assumption | exact (Below.refl _ _).drew | exact B.trans (by assumption) hb2 | exact B.trans (by assumption) (Below.refl _ _).drew) (first
    | (go_at_call 63; (with_reducible refine (HU.out _ (by assumption)).mono ?_); rintro e w2 ⟨rfl, hb2⟩))
  all_goals
    have hlast := ‹B w _›
    go_wp2_with fail
    go_ret
    exact ⟨rfl, hlast⟩
theorem small_file (hE : DkE d (m, E)) {i : Nat} {x : Fl × Nat} (hx : E[i]? = some x) : x.1.b.length ≤ 4194304 := by
  have h1 : x.1 ∈ d.R := by rw [← hE.2]; exact List.mem_map.2 ⟨x, List.mem_of_getElem? hx, rfl⟩
  obtain ⟨j, hj, e⟩ := List.mem_iff_getElem.1 h1
  have h2 := used_drop (R := d.R) (i := j) (f := x.1) (by rw [List.getElem?_eq_getElem hj, e])
  have := hE.1.used
  have := hE.1.room
  omega
theorem file_bs (hE : DkE d (m, E)) {i : Nat} {x : Fl × Nat} (hx : E[i]? = some x) (h : St W w (dkL p m d E ++ X)) : ∃ A c, w.cell? ⟨x.2, 0, none⟩ = some (.slice A x.1.b.length c) ∧ Bs w (.slice A x.1.b.length c) x.1.b := by
  obtain ⟨A, c, hv⟩ := turn_open h hx
  refine ⟨A, c, ?_, St.rowBs hv.swap rfl (by have := small_file hE hx; unfold big; omega)⟩
  have := (aBlk.get hv).cell 0
  simpa using this
theorem get_c (h : St W w (aDisk p d :: X)) (hn : n.length ≤ maxLen) : Calls Tryz.prog 46 #[.pointer (some ⟨p, 0, none⟩), .string (bstr n)] w fun e w' => ∃ v, e = .returned (.tuple #[v, .int .i64 (getF d n).2]) ∧ St W w' (aBy v (getF d n).1 :: aDisk p d :: X) := by
  have H0 := Lib.hid h
  obtain ⟨m, E, hE, h⟩ := aDisk.open_ h
  cases hm : mayF d n with
  | mk o er =>
  cases o with
  | none =>
    have hf : getF d n = ([], er) := by unfold getF; rw [hm]
    have HF := Lib.hid (find_no h hE hn hm)
    have q1 : (er != 0) = true := by simpa using may_none hm
    rw [hf]
    clear h hE hn hm hf
    go_enter Tryz.func46, Tryz.ntmps46
    go_wp2_with (first | (go_at_call 51; (with_reducible refine HF.out.mono ?_); rintro e w1 ⟨rfl, rfl⟩))
    go_ret2
    exact ⟨_, rfl, aBy.nil H0.out⟩
  | some i =>
    obtain ⟨_, x, hx, _, hd⟩ := may_on hE hm
    have hf : getF d n = (x.1.b, 0) := by unfold getF; rw [hm]; simp only; rw [hd]; rfl
    have HF := Lib.hid (find_yes h hE hn hm hx)
    obtain ⟨A, c, c0, hbs⟩ := file_bs hE hx h
    have HC := Lib.hid (sclone_c hbs)
    rw [hf]
    obtain ⟨y, g⟩ := x
    simp only at c0 HC
    clear h hE hn hm hf hx hd hbs
    go_enter Tryz.func46, Tryz.ntmps46
    go_wp2_with (first
      | (go_at_call 51; (with_reducible refine HF.out.mono ?_); rintro e w1 ⟨rfl, rfl⟩)
      | (go_at_call 8; (with_reducible refine HC.out.mono ?_); rintro e w2 ⟨v2, rfl, r2, hb2⟩; have HS := Lib.hid (H0.out.addRow hb2 r2); clear r2 hb2))
    go_ret2
    exact ⟨_, rfl, HS.out⟩
theorem sync_c (h : St W w (aDisk p d :: X)) (hn : n.length ≤ maxLen) : Calls Tryz.prog 33 #[.pointer (some ⟨p, 0, none⟩), .string (bstr n)] w fun e w' => e = .returned (.int .i64 (syncF d n).1) ∧ St W w' (aDisk p (syncF d n).2 :: X) := by
  have H0 := Lib.hid h
  obtain ⟨m, E, hE, h⟩ := aDisk.open_ h
  cases hm : mayF d n with
  | mk o er =>
  cases o with
  | none =>
    have hf : syncF d n = (er, d) := turn_none hm
    have HF := Lib.hid (find_no h hE hn hm)
    have q1 : (er == 0) = false := by simpa using may_none hm
    rw [hf]
    clear h hE hn hm hf
    go_enter Tryz.func33, Tryz.ntmps33
    go_wp2_with (first | (go_at_call 51; (with_reducible refine HF.out.mono ?_); rintro e w1 ⟨rfl, rfl⟩))
    go_ret
    exact ⟨rfl, H0.out⟩
  | some i =>
    obtain ⟨_, x, hx, _, hd⟩ := may_on hE hm
    have hf : syncF d n = (0, { d with R := d.R.set i ⟨x.1.nm, x.1.b, x.1.b.length⟩ }) := turn_some hm hd
    have hok := sync_ok hE.1 n
    rw [hf] at hok ⊢
    have HF := Lib.hid (find_yes h hE hn hm hx)
    obtain ⟨A, c, hv⟩ := turn_open h hx
    have hb := aBlk.get hv
    have c0 := hb.cell 0
    have c1 := hb.cell 1
    have f1 := hb.frozen 1
    simp at c0 c1
    have HB := Lib.hid (turn_back (f' := ⟨x.1.nm, x.1.b, x.1.b.length⟩) hE hx rfl hok (aBlk.set hv 1 (.int .i64 (x.1.b.length : Int))))
    obtain ⟨y, g⟩ := x
    simp only at c0 c1 f1 HF
    clear h hE hn hm hf hx hd hv hb hok
    go_enter Tryz.func33, Tryz.ntmps33
    go_wp2_with (first | (go_at_call 51; (with_reducible refine HF.out.mono ?_); rintro e w1 ⟨rfl, rfl⟩))
    go_ret
    exact ⟨rfl, HB.out⟩
theorem dk_off (h : St W w (dkL p m d E ++ X)) (hE : DkE d (m, E)) (o : Bool) : St W (w.setCell ⟨p, 2, none⟩ (.bool o)) (aDisk p { d with off := o } :: X) := by
  have h1 := aBlk.set h 2 (.bool o)
  exact aDisk.shut (m := m) (E := E) ⟨⟨hE.1.rise, hE.1.sure, hE.1.used, hE.1.room, hE.1.many⟩, hE.2⟩ h1
theorem restart_c (h : St W w (aDisk p d :: X)) : Calls Tryz.prog 16 #[.pointer (some ⟨p, 0, none⟩)] w fun e w' => e = .returned (.int .i64 (restartF d).1) ∧ St W w' (aDisk p (restartF d).2 :: X) := by
  have H0 := Lib.hid h
  obtain ⟨m, E, hE, h⟩ := aDisk.open_ h
  have hb := dkL.blk h
  have HN := Lib.hid (none_c hb)
  have c2 := hb.cell 2
  have f2 := hb.frozen 2
  simp at c2
  have HO := Lib.hid (dk_off h hE false)
  unfold restartF
  cases ho : d.off
  all_goals
    rw [ho] at c2
    clear h hE hb ho
    go_enter Tryz.func16, Tryz.ntmps16
    go_wp2_with (first | (go_at_call 38; (with_reducible refine HN.out.mono ?_); rintro e w1 ⟨rfl, rfl⟩))
    go_ret
  · exact ⟨rfl, H0.out⟩
  · exact ⟨rfl, HO.out⟩
set_option maxRecDepth 20000 in
theorem append_c {u : Value} {b : List UInt8} (h : St W w (aDisk p d :: X)) (hn : n.length ≤ maxLen) (hu : Bs w u b) (hbl : b.length ≤ 4194304000) : Calls Tryz.prog 30 #[.pointer (some ⟨p, 0, none⟩), .string (bstr n), u] w fun e w' => e = .returned (.int .i64 (appendF d n b).1) ∧ St W w' (aDisk p (appendF d n b).2 :: X) := by
  have H0 := Lib.hid h
  obtain ⟨m, E, hE, h⟩ := aDisk.open_ h
  obtain ⟨Au, cu, hus⟩ := hu.rd.slice
  cases hm : mayF d n with
  | mk o er =>
  cases o with
  | none =>
    have hf : appendF d n b = (er, d) := turn_none hm
    have HF := Lib.hid (find_no h hE hn hm)
    have q1 : (er != 0) = true := by simpa using may_none hm
    rw [hf]
    subst hus
    clear h hE hn hm hf hu
    go_enter Tryz.func30, Tryz.ntmps30
    go_wp2_with (first | (go_at_call 51; (with_reducible refine HF.out.mono ?_); rintro e w1 ⟨rfl, rfl⟩))
    go_ret
    exact ⟨rfl, H0.out⟩
  | some i =>
    obtain ⟨_, x, hx, _, hd⟩ := may_on hE hm
    have hf := turn_some (g := fun f => if d.room - usedF d.R < (b.length : Int) then (30, f) else (0, ⟨f.nm, f.b ++ b, f.sure⟩)) hm hd
    have hok := append_ok hE.1 n b
    unfold appendF at hok ⊢
    rw [hf] at hok ⊢
    have HF := Lib.hid (find_yes h hE hn hm hx)
    have HR := Lib.hid (room_c h hE)
    by_cases hlt : d.room - usedF d.R < (b.length : Int)
    · rw [if_pos hlt]
      simp only
      have hs : ({ d with R := d.R.set i x.1 } : Dk) = d := by
        have : d.R.set i x.1 = d.R := by
          apply List.ext_getElem?
          intro j
          rw [List.getElem?_set]
          split
          · rename_i e
            subst e
            split
            · exact hd.symm
            · rename_i hh; rw [List.getElem?_eq_none (by omega)]
          · rfl
        rw [this]
      rw [hs]
      subst hus
      clear h hE hn hm hf hu hok hx hd hs
      go_enter Tryz.func30, Tryz.ntmps30
      go_wp2_with (first
        | (go_at_call 51; (with_reducible refine HF.out.mono ?_); rintro e w1 ⟨rfl, rfl⟩)
        | (go_at_call 52; (with_reducible refine HR.out.mono ?_); rintro e w2 ⟨rfl, hb2⟩; have HB2 := Lib.hid hb2; clear hb2))
      go_ret
      exact ⟨rfl, H0.out.later HB2.out⟩
    · rw [if_neg hlt] at hok ⊢
      simp only at hok ⊢
      obtain ⟨A, c, hv⟩ := turn_open h hx
      have HV := Lib.hid (fun w' (hb : B w w') => hv.later hb)
      have HUB := Lib.hid (fun w' (hb : B w w') => (hu.later hb).rd)
      have hxl := small_file hE hx
      have g1 : x.1.b.length + b.length ≤ maxLen := by unfold maxLen; omega
      have g2 : (x.1.b.length + b.length) * 1 ≤ 140737488355328 := by omega
      have HK := Lib.hid (fun (w' : World) (A' : Option Addr) (c' : Nat) (hS : St W w' (aRow 5 1 (.slice A' (x.1.b.length + b.length) c') (x.1.b.length + b.length) (cellsB x.1.b ++ cellsB b) :: aBlk x.2 76 #[.slice A x.1.b.length c, .int .i64 (x.1.sure : Int)] :: aBlk p 49 #[.int .i64 d.room, .map (some m), .bool d.off] :: aMap Tryz.prog 9 m (dOf E) :: ((E.take i ++ E.drop (i + 1)).map aFile ++ X))) =>
        show St W (w'.setCell ⟨x.2, 0, none⟩ (.slice A' (x.1.b.length + b.length) c')) (aDisk p { d with R := d.R.set i ⟨x.1.nm, x.1.b ++ b, x.1.sure⟩ } :: X) from
        turn_back (f' := ⟨x.1.nm, x.1.b ++ b, x.1.sure⟩) hE hx rfl hok (by
          have := aBlk.set hS.swap 0 (.slice A' (x.1.b.length + b.length) c')
          rw [← cellsB_app, ← List.length_append] at this
          rw [← List.length_append]
          exact this))
      have HC := Lib.hid (fun (w' : World) (A' : Option Addr) (c' : Nat) (hS : St W w' (aRow 5 1 (.slice A' (x.1.b.length + b.length) c') (x.1.b.length + b.length) (cellsB x.1.b ++ cellsB b) :: aBlk x.2 76 #[.slice A x.1.b.length c, .int .i64 (x.1.sure : Int)] :: aBlk p 49 #[.int .i64 d.room, .map (some m), .bool d.off] :: aMap Tryz.prog 9 m (dOf E) :: ((E.take i ++ E.drop (i + 1)).map aFile ++ X))) => show w'.cell? ⟨x.2, 0, none⟩ = some (.slice A x.1.b.length c) ∧ w'.frozen? ⟨x.2, 0, none⟩ = false from
        ⟨by have := (aBlk.get hS.swap).cell 0; simpa using this, (aBlk.get hS.swap).frozen 0⟩)
      have HC0 := Lib.hid (fun (w' : World) (hb : B w w') => show w'.cell? ⟨x.2, 0, none⟩ = some (.slice A x.1.b.length c) from hb.cell (by have := (aBlk.get hv).cell 0; simpa using this))
      subst hus
      obtain ⟨y, g⟩ := x
      simp only at HF HV g1 g2 HK HC HC0
      have o1 := cellsB_one b
      clear h hE hn hm hf hu hok hx hd hv hxl
      go_enter Tryz.func30, Tryz.ntmps30
      go_wp2_with (first
        | (go_at_call 51; (with_reducible refine HF.out.mono ?_); rintro e w1 ⟨rfl, rfl⟩)
        | (go_at_call 52; (with_reducible refine HR.out.mono ?_); rintro e w2 ⟨rfl, hb2⟩; have HB2 := Lib.hid hb2; have k0 := HC0.out _ hb2; clear hb2)
        | (at_builtin; refine wpList_append_St rfl (.tmp 27) (.tmp 28) 32 rfl Tryz.underlying32 info5 rfl Nat.zero_lt_one rfl rfl (HV.out _ HB2.out).swap (HUB.out _ HB2.out) o1 g1 g2 ?_; intro A3 c3 w3 hS; have H3 := Lib.hid hS; obtain ⟨k1, k2⟩ := HC.out _ _ _ hS; clear hS k0))
      go_ret
      exact ⟨rfl, HK.out _ _ _ H3.out⟩
end
end Go.Proofs.YtoikjgcggmemaaaGreatDoor

/- Create, Remove, Rename of a disk. -/
namespace Go.Proofs.YtoikjgcggmemaaaGreatDoor
open Go.RowKit Go.Maps Go.Deep
set_option linter.unusedVariables false

section
variable {P : Program} {w w' : World} {ops : Array Oper} {rest : List Oper} {o : Oper} {a : Act} {Q : Exit → Act → World → Prop}
theorem wpList_mapUpdate_run (hg : o.guard = none) (m x v : Operand) (t : TypeId) (hop : o.op = Op.mapUpdate t m x v) {mv kv vv : Value} (hm : a.eval m = mv) (hx : a.eval x = kv) (hv : a.eval v = vv)
    (hrun : (Instr.mapUpdate t mv kv vv).run P w = .ok () w') (h : wpList P ops Q rest (a.put o.dst undef) w') : wpList P ops Q (o :: rest) a w := by
  refine wpList_plain hg fun K' hK' => ?_
  unfold Oper.wp
  simp [execOp, hop, hm, hx, hv, hrun, Result.andThen]
  exact hK' _ _ h
theorem wpList_delete_run (hg : o.guard = none) (m x : Operand) (t k : TypeId) (hop : o.op = Op.call { callee := Callee.builtin Builtin.delete, args := #[m, x], argTypes := #[t, k] }) {mv kv : Value} (hm : a.eval m = mv) (hx : a.eval x = kv)
    (hrun : ∀ ty, (Builtin.delete_ #[t, k] ty #[mv, kv]).run P w = .ok (.tuple #[]) w') (h : wpList P ops Q rest (a.put o.dst (.tuple #[])) w') : wpList P ops Q (o :: rest) a w := by
  refine wpList_plain hg fun K' hK' => ?_
  unfold Oper.wp
  simp [execOp, hop, resolve, invoke, builtin, hm, hx, hrun, Result.andThen]
  exact hK' _ _ h
theorem wpList_len_run (hg : o.guard = none) (m : Operand) (t : TypeId) (hop : o.op = Op.call { callee := Callee.builtin Builtin.len, args := #[m], argTypes := #[t] }) {mv lv : Value} (hm : a.eval m = mv)
    (hrun : ∀ ty, (Builtin.len_ #[t] ty #[mv]).run P w = .ok lv w) (h : wpList P ops Q rest (a.put o.dst lv) w) : wpList P ops Q (o :: rest) a w := by
  refine wpList_plain hg fun K' hK' => ?_
  unfold Oper.wp
  simp [execOp, hop, resolve, invoke, builtin, hm, hrun, Result.andThen]
  exact hK' _ _ h
end
theorem bstr_nil (n : List UInt8) : (bstr n).toList.isEmpty = decide (n = []) := by
  rw [bstr_toList]
  cases n <;> simp
section
variable {W w : World} {p m : Nat} {d : Dk} {E : List (Fl × Nat)} {X : List Asn} {n : List UInt8}
theorem many_E (hE : DkE d (m, E)) : E.length ≤ 64 ∧ E.length = d.R.length := by
  have h1 := hE.1.many
  have h2 := congrArg List.length hE.2
  simp [flsOf] at h2
  omega
theorem dk_create (h : St W w (dkL p m d E ++ X)) (hE : DkE d (m, E)) (hn : n.length ≤ maxLen) (hok : (createF d n).2.ok) (hi : ixF n d.R = none) (hc : createF d n = (0, { d with R := insF ⟨n, [], 0⟩ d.R })) :
    ∃ w', (Instr.mapUpdate 47 (.map (some m)) (.string (bstr n)) (.pointer (some ⟨w.heap.size, 0, none⟩))).run Tryz.prog (w.alloc (.cells #[.slice none 0 0, .int .i64 0] 76)) = .ok () w' ∧ St W w' (aDisk p (createF d n).2 :: X) := by
  have h1 := aBlk.new h 76 #[.slice none 0 0, .int .i64 0]
  have h2 : St W (w.alloc (.cells #[.slice none 0 0, .int .i64 0] 76)) (aFile (⟨n, [], 0⟩, w.heap.size) :: (dkL p m d E ++ X)) := aFile.shut (x := (⟨n, [], 0⟩, w.heap.size)) (aBy.nil h1).swap
  have h3 := h2.rot3
  have hl := (many_E hE).1
  obtain ⟨w', r1, r2, _⟩ := aMap.store h3 ⟨_, rfl, by simp; unfold maxLen; omega⟩ strLaw Tryz.underlying47 (keyN hn) w.heap.size
  refine ⟨w', r1, ?_⟩
  have hs := hE.1.rise
  rw [← hE.2] at hs
  have hi' : ixF n (flsOf E) = none := by rw [hE.2]; exact hi
  rw [show (dOf E).put (.string n) (.lit (.int .i64 (w.heap.size : Int))) = dOf (insE (⟨n, [], 0⟩, w.heap.size) E) by
    have := dOf_put hs ⟨n, [], 0⟩ w.heap.size
    rw [dropE_none hi'] at this
    exact this] at r2
  rw [hc] at hok ⊢
  refine aDisk.shut (m := m) (E := insE (⟨n, [], 0⟩, w.heap.size) E) ⟨hok, by rw [insE_fls, hE.2]⟩ (r2.perm ?_)
  unfold dkL
  have h4 := ((insE_perm (⟨n, [], 0⟩, w.heap.size) E).map aFile).append_right X
  simp only [List.cons_append, List.map_cons] at h4 ⊢
  refine (List.Perm.trans ?_ (List.Perm.cons _ (List.Perm.cons _ h4.symm)))
  exact (List.Perm.cons _ (List.Perm.swap _ _ _)).trans (List.Perm.swap _ _ _)
set_option maxRecDepth 20000 in
theorem create_c (h : St W w (aDisk p d :: X)) (hn : n.length ≤ maxLen) : Calls Tryz.prog 44 #[.pointer (some ⟨p, 0, none⟩), .string (bstr n)] w fun e w' => e = .returned (.int .i64 (createF d n).1) ∧ St W w' (aDisk p (createF d n).2 :: X) := by
  have H0 := Lib.hid h
  obtain ⟨m, E, hE, h⟩ := aDisk.open_ h
  have hb := dkL.blk h
  have c1 := hb.cell 1
  simp at c1
  have HC := Lib.hid (can_c hb)
  have q0 := bstr_nil n
  cases ho : d.off with
  | true =>
    rw [ho] at HC
    have hf : createF d n = (32, d) := by unfold createF; rw [if_pos ho]
    rw [hf]
    clear h hE hn hb ho hf
    go_enter Tryz.func44, Tryz.ntmps44
    go_wp2_with (first | (go_at_call 35; (with_reducible refine HC.out.mono ?_); rintro e w1 ⟨rfl, rfl⟩))
    go_ret
    exact ⟨rfl, H0.out⟩
  | false =>
    rw [ho] at HC
    have ho' : ¬ d.off = true := by rw [ho]; simp
    by_cases h1 : n = []
    · have hf : createF d n = (1, d) := by unfold createF; rw [if_neg ho', if_pos h1]
      rw [hf]
      rw [decide_eq_true h1] at q0
      clear h hE hn hb ho hf ho'
      subst h1
      go_enter Tryz.func44, Tryz.ntmps44
      go_wp2_with (first | (go_at_call 35; (with_reducible refine HC.out.mono ?_); rintro e w1 ⟨rfl, rfl⟩))
      go_ret
      exact ⟨rfl, H0.out⟩
    · rw [decide_eq_false h1] at q0
      cases hi : ixF n d.R with
      | some i =>
        have hf : createF d n = (31, d) := by unfold createF; rw [if_neg ho', if_neg h1, if_pos (by rw [hi]; rfl)]
        obtain ⟨x, hx, _⟩ := dOf_at (E := E) (n := n) (i := i) (by rw [hE.2]; exact hi)
        have hl := look_yes h hn (by rw [hE.2]; exact hi) hx
        rw [hf]
        generalize x.2 = g at *
        clear h hE hn hb ho hf ho' h1 hi hx
        go_enter Tryz.func44, Tryz.ntmps44
        go_wp2_with (first | (go_at_call 35; (with_reducible refine HC.out.mono ?_); rintro e w1 ⟨rfl, rfl⟩))
        go_ret
        exact ⟨rfl, H0.out⟩
      | none =>
        have hl := look_no h hn (by rw [hE.2]; exact hi)
        have hlen := fun ty => aMap.len h.swap Tryz.underlying47 ty
        rw [dOf_size] at hlen
        have hme := many_E hE
        by_cases h2 : 64 ≤ d.R.length
        · have hf : createF d n = (6, d) := by unfold createF; rw [if_neg ho', if_neg h1, if_neg (by rw [hi]; simp), if_pos h2]
          have he : E.length = 64 := by omega
          rw [he] at hlen
          rw [hf]
          have HLN := Lib.hid hlen
          clear h hE hn hb ho hf ho' h1 hi hme h2 he hlen
          go_enter Tryz.func44, Tryz.ntmps44
          go_wp2_with (first
            | (go_at_call 35; (with_reducible refine HC.out.mono ?_); rintro e w1 ⟨rfl, rfl⟩)
            | (at_len; refine wpList_len_run rfl (.tmp 26) 47 rfl rfl HLN.out ?_))
          go_ret
          exact ⟨rfl, H0.out⟩
        · have hf : createF d n = (0, { d with R := insF ⟨n, [], 0⟩ d.R }) := by unfold createF; rw [if_neg ho', if_neg h1, if_neg (by rw [hi]; simp), if_neg h2]; rfl
          obtain ⟨w', hrun, hS⟩ := dk_create h hE hn (create_ok hE.1 n) hi hf
          rw [hf] at hS ⊢
          have HS := Lib.hid hS
          have HRN := Lib.hid hrun
          have HLN := Lib.hid hlen
          have he : (E.length : Int) < 64 := by omega
          clear h hE hn hb ho hf ho' h1 hi hme h2 hlen hS hrun
          go_enter Tryz.func44, Tryz.ntmps44
          go_wp2_with (first
            | (go_at_call 35; (with_reducible refine HC.out.mono ?_); rintro e w1 ⟨rfl, rfl⟩)
            | (at_mapUpdate; refine wpList_mapUpdate_run rfl (.tmp 32) (.tmp 33) (.tmp 35) 47 rfl rfl rfl rfl HRN.out ?_)
            | (at_len; refine wpList_len_run rfl (.tmp 26) 47 rfl rfl HLN.out ?_))
          go_ret
          exact ⟨rfl, HS.out⟩
theorem dk_remove {i : Nat} {x : Fl × Nat} {er : Int} (h : St W w (dkL p m d E ++ X)) (hE : DkE d (m, E)) (hn : n.length ≤ maxLen) (hm : mayF d n = (some i, er)) (hx : E[i]? = some x) :
    ∃ w', (∀ ty, (Builtin.delete_ #[47, 9] ty #[.map (some m), .string (bstr n)]).run Tryz.prog w = .ok (.tuple #[]) w') ∧ St W w' (aFile x :: (dkL p m d (dropE n E) ++ X)) := by
  have h1 := dkL.pick h hx
  have hs := hE.1.rise
  rw [← hE.2] at hs
  obtain ⟨w', r1, r2, r3⟩ := aMap.drop (T := 47) h1.rot3 strLaw Tryz.underlying47 (keyN hn) 0
  refine ⟨w', fun ty => r1, ?_⟩
  rw [dOf_del hs] at r2
  have hd : dropE n E = E.take i ++ E.drop (i + 1) := by unfold dropE; rw [(may_on hE hm).1]
  rw [hd] at r2 ⊢
  unfold dkL
  exact r2.perm ((List.Perm.swap _ _ _).trans (List.Perm.cons _ (List.Perm.swap _ _ _)))
set_option maxRecDepth 20000 in
theorem remove_c (h : St W w (aDisk p d :: X)) (hn : n.length ≤ maxLen) : Calls Tryz.prog 34 #[.pointer (some ⟨p, 0, none⟩), .string (bstr n)] w fun e w' => e = .returned (.int .i64 (removeF d n).1) ∧ St W w' (aDisk p (removeF d n).2 :: X) := by
  have H0 := Lib.hid h
  obtain ⟨m, E, hE, h⟩ := aDisk.open_ h
  have hb := dkL.blk h
  have c1 := hb.cell 1
  simp at c1
  cases hm : mayF d n with
  | mk o er =>
  cases o with
  | none =>
    have hf : removeF d n = (er, d) := by unfold removeF; rw [hm]
    have HF := Lib.hid (find_no h hE hn hm)
    have q1 : (er == 0) = false := by simpa using may_none hm
    rw [hf]
    clear h hE hn hm hf hb
    go_enter Tryz.func34, Tryz.ntmps34
    go_wp2_with (first | (go_at_call 51; (with_reducible refine HF.out.mono ?_); rintro e w1 ⟨rfl, rfl⟩))
    go_ret
    exact ⟨rfl, H0.out⟩
  | some i =>
    obtain ⟨hix, x, hx, _, hd⟩ := may_on hE hm
    have hf : removeF d n = (0, { d with R := d.R.take i ++ d.R.drop (i + 1) }) := by unfold removeF; rw [hm]
    have hok := remove_ok hE.1 n
    have HF := Lib.hid (find_yes h hE hn hm hx)
    obtain ⟨w', hrun, hS⟩ := dk_remove h hE hn hm hx
    have HRN := Lib.hid hrun
    rw [hf] at hok ⊢
    have HS := Lib.hid (show St W w' (aDisk p { d with R := d.R.take i ++ d.R.drop (i + 1) } :: X) from aDisk.shut (m := m) (E := dropE n E) ⟨hok, by rw [dropE_fls, hE.2]; unfold dropF; rw [show ixF n d.R = some i by rw [← hE.2]; exact hix]⟩ hS.drop)
    clear h hE hn hm hf hb hok hS hrun hx hd hix
    go_enter Tryz.func34, Tryz.ntmps34
    go_wp2_with (first
      | (go_at_call 51; (with_reducible refine HF.out.mono ?_); rintro e w1 ⟨rfl, rfl⟩)
      | (at_delete; refine wpList_delete_run rfl (.tmp 18) (.tmp 19) 47 9 rfl rfl rfl HRN.out ?_))
    go_ret
    exact ⟨rfl, HS.out⟩
theorem ins_self {E : List (Fl × Nat)} (hs : (flsOf E).Pairwise (fun a b => bytesBefore a.nm b.nm = true)) {i : Nat} {x : Fl × Nat} (hx : E[i]? = some x) : insE x (dropE x.1.nm E) = E := by
  have hi := ix_self hs hx
  have hd : dropE x.1.nm E = E.take i ++ E.drop (i + 1) := by unfold dropE; rw [hi]
  have hs' : (flsOf (insE x (dropE x.1.nm E))).Pairwise (fun a b => bytesBefore a.nm b.nm = true) := by
    rw [insE_fls, dropE_fls]
    exact ins_rise (dropF_rise hs _) _ (dropF_not hs _)
  have hp : (insE x (dropE x.1.nm E)).Perm E := by
    refine (insE_perm _ _).trans ?_
    rw [hd]
    exact (perm_pick hx).symm
  refine List.Perm.eq_of_pairwise (le := fun a b => bytesBefore a.1.nm b.1.nm = true) (fun a b _ _ h1 h2 => ?_) (List.pairwise_map.1 hs') (List.pairwise_map.1 hs) hp
  have := bb_trans _ _ _ h1 h2
  rw [bb_irr] at this; cases this
theorem dk_rename {i : Nat} {x : Fl × Nat} {er : Int} {to : List UInt8} (h : St W w (aFile x :: (dkL p m d (dropE n E) ++ X))) (hE : DkE d (m, E)) (ht : to.length ≤ maxLen) (hm : mayF d n = (some i, er)) (hx : E[i]? = some x) (ht0 : to ≠ []) :
    ∃ w', (Instr.mapUpdate 47 (.map (some m)) (.string (bstr to)) (.pointer (some ⟨x.2, 0, none⟩))).run Tryz.prog w = .ok () w' ∧ St W w' (aDisk p (renameF d n to).2 :: X) := by
  have hs := hE.1.rise
  rw [← hE.2] at hs
  have hs1 : (flsOf (dropE n E)).Pairwise (fun a b => bytesBefore a.nm b.nm = true) := by rw [dropE_fls]; exact dropF_rise hs n
  have hl := (many_E hE).1
  have hle : (dropE n E).length ≤ 64 := by
    have := (dropF_le n (flsOf E)).1
    rw [← dropE_fls] at this
    simp [flsOf] at this; omega
  obtain ⟨w', r1, r2, _⟩ := aMap.store h.rot3 ⟨_, rfl, by simp; unfold maxLen; omega⟩ strLaw Tryz.underlying47 (keyN ht) x.2
  refine ⟨w', r1, ?_⟩
  have hp := dOf_put hs1 ⟨to, x.1.b, x.1.sure⟩ x.2
  rw [hp] at r2
  -- the file that had the name is no more
  have h3 : St W w' (aMap Tryz.prog 9 m (dOf (insE (⟨to, x.1.b, x.1.sure⟩, x.2) (dropE to (dropE n E)))) :: aFile x :: aBlk p 49 #[.int .i64 d.room, .map (some m), .bool d.off] :: ((dropE to (dropE n E)).map aFile ++ X)) := by
    cases hi : ixF to (flsOf (dropE n E)) with
    | none => rw [dropE_none hi] at r2 ⊢; exact r2
    | some k =>
      obtain ⟨y, hy, _, _⟩ := dOf_at hi
      have hd : dropE to (dropE n E) = (dropE n E).take k ++ (dropE n E).drop (k + 1) := by unfold dropE at hi ⊢; rw [hi]
      have h1 := (perm_pick (L := (dropE n E).map aFile) (i := k) (a := aFile y) (by rw [List.getElem?_map, hy]; rfl)).append_right X
      rw [← List.map_take, ← List.map_drop, ← List.map_append, ← hd] at h1
      simp only [List.cons_append] at h1
      have h2 := r2.perm (((h1.cons _).cons _).cons _)
      have h4 := h2.perm (((List.Perm.swap _ _ _).cons _).cons _)
      have h5 := h4.perm ((List.Perm.swap _ _ _).cons _)
      exact (h5.perm (List.Perm.swap _ _ _)).drop
  have h4 : St W w' (aFile (⟨to, x.1.b, x.1.sure⟩, x.2) :: aBlk p 49 #[.int .i64 d.room, .map (some m), .bool d.off] :: aMap Tryz.prog 9 m (dOf (insE (⟨to, x.1.b, x.1.sure⟩, x.2) (dropE to (dropE n E)))) :: ((dropE to (dropE n E)).map aFile ++ X)) :=
    St.conv (A := aFile x) (h3.perm ((List.Perm.swap _ _ _).trans (List.Perm.cons _ (List.Perm.swap _ _ _)))) (fun own hA => hA)
  have h5 : St W w' (dkL p m d (insE (⟨to, x.1.b, x.1.sure⟩, x.2) (dropE to (dropE n E))) ++ X) := by
    refine h4.perm ?_
    have h6 := ((insE_perm (⟨to, x.1.b, x.1.sure⟩, x.2) (dropE to (dropE n E))).map aFile).append_right X
    unfold dkL
    simp only [List.cons_append, List.map_cons] at h6 ⊢
    refine (List.Perm.trans ?_ (List.Perm.cons _ (List.Perm.cons _ h6.symm)))
    exact (List.Perm.swap _ _ _).trans (List.Perm.cons _ (List.Perm.swap _ _ _))
  obtain ⟨_, x', hx', hnm, hd'⟩ := may_on hE hm
  have hxx : x' = x := by rw [hx] at hx'; exact (Option.some.inj hx').symm
  subst hxx
  have hok := rename_ok hE.1 n to
  have hf : renameF d n to = if to = n then (0, d) else (0, { d with R := insF ⟨to, x'.1.b, x'.1.sure⟩ (dropF to (dropF n d.R)) }) := by
    unfold renameF; rw [hm]; simp only; rw [hd']; simp only; rw [if_neg ht0]
  rw [hf] at hok ⊢
  by_cases hto : to = n
  · rw [if_pos hto]
    have e1 : dropE to (dropE n E) = dropE n E := by
      subst hto
      refine dropE_none ?_
      cases hi : ixF to (flsOf (dropE to E)) with
      | none => rfl
      | some k =>
        obtain ⟨f, k1, k2, _⟩ := ixF_some hi
        have := dropF_not hs to f (by rw [← dropE_fls]; exact List.mem_of_getElem? k1)
        exact absurd k2 this
    rw [e1] at h5
    have e2 : insE (⟨to, x'.1.b, x'.1.sure⟩, x'.2) (dropE n E) = E := by
      have h7 : ((⟨to, x'.1.b, x'.1.sure⟩, x'.2) : Fl × Nat) = x' := by
        rw [hto, ← hnm]
      rw [h7, ← hnm]
      exact ins_self hs hx
    rw [e2] at h5
    exact aDisk.shut (m := m) (E := E) hE h5
  · rw [if_neg hto] at hok ⊢
    exact aDisk.shut (m := m) (E := insE (⟨to, x'.1.b, x'.1.sure⟩, x'.2) (dropE to (dropE n E))) ⟨hok, by rw [insE_fls, dropE_fls, dropE_fls, hE.2]⟩ h5
end
end Go.Proofs.YtoikjgcggmemaaaGreatDoor
