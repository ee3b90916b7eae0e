/- Lemmas and contracts, part 3. -/
import Derived.Test.YtoikjgcggmemaaaGreatDoorZb2
import Derived.Laws.BytesArg
/- Byte slices: 'Bs w v bs': the slice value v reads as the bytes bs. No program here. -/
namespace Go.Proofs.YtoikjgcggmemaaaGreatDoor
open Go.RowKit
set_option linter.unusedVariables false

def cellsB (bs : List UInt8) : List Value := bs.map fun b => .int .u8 b.toNat
theorem cellsB_len (bs : List UInt8) : (cellsB bs).length = bs.length := by simp [cellsB]
theorem cellsB_app (a b : List UInt8) : cellsB (a ++ b) = cellsB a ++ cellsB b := by simp [cellsB]
theorem cellsB_get (bs : List UInt8) (j : Nat) (h : j < bs.length) : (cellsB bs)[j]? = some (.int .u8 (bs[j]).toNat) := by simp [cellsB, h]
theorem cellsB_one (bs : List UInt8) : ∀ u ∈ cellsB bs, u.oneCell' = true := by
  intro u hu
  simp only [cellsB, List.mem_map] at hu
  obtain ⟨b, _, rfl⟩ := hu
  rfl
def bstr (bs : List UInt8) : ByteArray := ⟨bs.toArray⟩
theorem bstr_toList (bs : List UInt8) : (bstr bs).toList = bs := by rw [ByteArray.toList_eq]; rfl
theorem bstr_inj {a b : List UInt8} (h : bstr a = bstr b) : a = b := by rw [← bstr_toList a, h, bstr_toList]

def big : Nat := 140737488355328
structure Bs (w : World) (v : Value) (bs : List UInt8) : Prop where
  ex : ∃ (A : Option Addr) (cap : Nat), v = .slice A bs.length cap ∧ (A = none → bs = [] ∧ cap = 0) ∧ bs.length ≤ cap ∧ cap ≤ maxLen ∧
    ∀ ad, A = some ad → (bs ≠ [] → ad.block < w.heap.size) ∧ ∀ j u, (cellsB bs)[j]? = some u → w.cell? (ad.add j) = some u
  len : bs.length ≤ big

theorem block_of_add (a : Addr) (n : Nat) : (a.add n).block = a.block := by unfold Addr.add; split <;> rfl
theorem Bs.nil (w : World) : Bs w (.slice none 0 0) [] := ⟨⟨none, 0, rfl, fun _ => ⟨rfl, rfl⟩, Nat.le_refl _, by unfold maxLen; omega, fun ad h => by cases h⟩, by simp [big]⟩
theorem Bs.ext {own : Nat → Prop} {w w' : World} {v : Value} {bs : List UInt8} (h : Bs w v bs) (hb : Ext own w w') (hd : ∀ g, v.ownBlock = some g → bs ≠ [] → ¬ own g) : Bs w' v bs := by
  obtain ⟨⟨A, cap, hv, hn, hc, hm, hr⟩, hl⟩ := h
  refine ⟨⟨A, cap, hv, hn, hc, hm, fun ad had => ?_⟩, hl⟩
  obtain ⟨h1, h2⟩ := hr ad had
  exact ⟨fun hne => Nat.lt_of_lt_of_le (h1 hne) hb.size, fun j u hu => hb.cell (by
    rw [block_of_add]
    exact hd _ (by rw [hv, had]; rfl) (fun e => by subst e; simp [cellsB] at hu)) (h2 j u hu)⟩
theorem Bs.later {w w' : World} {v : Value} {bs : List UInt8} (h : Bs w v bs) (hb : B w w') : Bs w' v bs := h.ext (Ext.of_B (own := fun _ => False) hb) (fun _ _ _ => id)
theorem Bs.lt {w : World} {v : Value} {bs : List UInt8} (h : Bs w v bs) (hne : bs ≠ []) {g : Nat} (hg : v.ownBlock = some g) : g < w.heap.size := by
  obtain ⟨⟨A, cap, rfl, hn, hc, hm, hr⟩, hl⟩ := h
  cases A with
  | none => simp [Value.ownBlock] at hg
  | some ad =>
    have : ad.block = g := by simpa [Value.ownBlock] using hg
    rw [← this]; exact (hr ad rfl).1 hne
theorem Bs.of_own {w : World} {base : Nat} {e : TypeId} {v : Value} {bs : List UInt8} (h : w.ownsRow base e 1 v bs.length (cellsB bs)) (hl : bs.length ≤ big) : Bs w v bs := by
  obtain ⟨h1, h2⟩ := h
  rcases h2 with ⟨rfl, h0⟩ | ⟨g, cap, cur, rfl, hg, hh, hc, hm, hs, ht⟩
  · have : bs = [] := List.eq_nil_of_length_eq_zero h0
    subst this; exact Bs.nil w
  · refine ⟨⟨_, cap, rfl, fun e => (by cases e), hc, hm, fun ad had => ?_⟩, hl⟩
    cases had
    refine ⟨fun _ => Blk.lt (t := e) hh, fun j u hu => ?_⟩
    have hj : j < bs.length := by
      rcases Nat.lt_or_ge j bs.length with h | h
      · exact h
      · rw [List.getElem?_eq_none (by rw [cellsB_len]; exact h)] at hu; cases hu
    have ea : (⟨g, 0, none⟩ : Addr).add j = ⟨g, j, none⟩ := by unfold Addr.add; split <;> simp_all
    rw [ea, Blk.cell (t := e) hh, ← hu, ← ht]
    simp [hj]

section
variable {P : Program}
/-- 'string(b)' -/
theorem Bs.conv {w : World} {v : Value} {bs : List UInt8} (h : Bs w v bs) {src dst e : TypeId} (hs : P.underlying src = some (.slice e)) (he : P.underlying e = some (.int .u8)) (hd : P.underlying dst = some .string) :
    (convert src dst v).run P w = .ok (.string (bstr bs)) w := by
  obtain ⟨⟨A, cap, rfl, hn, hc, hm, hr⟩, hl⟩ := h
  cases A with
  | none =>
    rw [(hn rfl).1]
    exact run_convert_bytes_nil w src e hs he _ _ dst hd
  | some ad =>
    have hx : (bs.map fun b => (b.toNat : Int)).length = bs.length := by simp
    have hl : (loadCells ad bs.length).run P w = .ok ((bs.map fun b => (b.toNat : Int)).map (Value.int .u8)).toArray w := by
      have := run_loadCells_list (P := P) w ad (cellsB bs) ((hr ad rfl).2)
      simpa [cellsB, Function.comp_def] using this
    rw [run_convert_bytes_string w src dst e _ _ cap hs he hd, run_bytesToString w _ _ cap _ hl, foldl_push_bytes]
    simp [bstr, ByteArray.empty, ByteArray.emptyWithCapacity, Function.comp_def]
    rfl

/-- a slice against nil -/
theorem Bs.isNil {w : World} {v : Value} {bs : List UInt8} (h : Bs w v bs) : (v = .slice none 0 0 ∧ bs = []) ∨ ∃ ad cap, v = .slice (some ad) bs.length cap := by
  obtain ⟨⟨A, cap, rfl, hn, hc, hm, hr⟩, hl⟩ := h
  cases A with
  | none => obtain ⟨h1, h2⟩ := hn rfl; subst h1 h2; exact .inl ⟨rfl, rfl⟩
  | some ad => exact .inr ⟨ad, cap, rfl⟩

/-- append of bytes onto an own row -/
theorem append_Bs {w : World} {t ty e : TypeId} (ht : P.underlying t = some (.slice e)) (hi5 : (P.info? e).map (fun i => (i.zero, i.size, i.bytes)) = some (some (.int .u8 0), 1, 1))
    {base : Nat} {v u : Value} {xs bs : List UInt8} (hown : w.ownsRow base e 1 v xs.length (cellsB xs)) (hu : Bs w u bs) (hroom : xs.length + bs.length ≤ big) (hbase : base ≤ w.heap.size) :
    ∃ v' w', (Builtin.append_ #[t, t] ty #[v, u]).run P w = .ok v' w' ∧ w'.ownsRow base e 1 v' (xs ++ bs).length (cellsB (xs ++ bs)) ∧ w.grownBy w' v.ownBlock ∧ (v'.ownBlock = v.ownBlock ∨ v'.ownBlock = some w.heap.size) := by
  obtain ⟨i, hi, hz, hs, hb⟩ := info_parts hi5
  obtain ⟨⟨A, cap, rfl, hn, hc, hm, hr⟩, hl⟩ := hu
  unfold big at hroom hl
  cases A with
  | none =>
    obtain ⟨rfl, rfl⟩ := hn rfl
    refine ⟨v, w, ?_, by simpa using hown, World.grownBy.refl w _, .inl rfl⟩
    rcases hown.2 with ⟨rfl, _⟩ | ⟨g, c, cur, rfl, _, _, hnc, _⟩
    · simp [Builtin.append_, run_underlying ht, sizeOf, typeInfo, hi, Builtin.lenOf, Builtin.firstCells]
    · simp [Builtin.append_, run_underlying ht, sizeOf, typeInfo, hi, Builtin.lenOf, Builtin.firstCells, hnc, storeCells]
  | some ad =>
    obtain ⟨v', w', h1, h2, h3, h4, h5⟩ := run_append_own_at (P := P) w base t ty e i (.int .u8 0) 1 1 ht hi hz hs hb rfl (by omega) v xs.length (cellsB xs) hown ad bs.length cap (cellsB bs) (by rw [cellsB_len]; omega) (hr ad rfl).2 (cellsB_one bs) (by unfold maxLen; omega) (by omega) hbase
    exact ⟨v', w', h1, by rw [List.length_append, cellsB_app]; exact h2, h3, h5⟩
end
end Go.Proofs.YtoikjgcggmemaaaGreatDoor

/- A slice that is read, whatever its elements ('Rd'), and append from it. No program here. -/
namespace Go.Proofs.YtoikjgcggmemaaaGreatDoor
open Go.RowKit
set_option linter.unusedVariables false

/-- the slice value u of m elements of sz cells reads as the cells xs -/
def Rd (w : World) (u : Value) (m sz : Nat) (xs : List Value) : Prop :=
  xs.length = m * sz ∧ ∃ (A : Option Addr) (cap : Nat), u = .slice A m cap ∧ (A = none → m = 0 ∧ cap = 0) ∧ m ≤ cap ∧ ∀ ad, A = some ad → (0 < m → ad.block < w.heap.size) ∧ ∀ j x, xs[j]? = some x → w.cell? (ad.add j) = some x
theorem Rd.ext {own : Nat → Prop} {w w' : World} {u : Value} {m sz : Nat} {xs : List Value} (h : Rd w u m sz xs) (hb : Ext own w w') (hd : ∀ g, u.ownBlock = some g → ¬ own g) : Rd w' u m sz xs := by
  obtain ⟨hl, A, cap, hv, hn, hc, hr⟩ := h
  refine ⟨hl, A, cap, hv, hn, hc, fun ad had => ?_⟩
  obtain ⟨h1, h2⟩ := hr ad had
  have hno : ¬ own ad.block := hd _ (by rw [hv, had]; rfl)
  exact ⟨fun h => Nat.lt_of_lt_of_le (h1 h) hb.size, fun j x hx => hb.cell (by rw [block_of_add]; exact hno) (h2 j x hx)⟩
theorem Rd.later {w w' : World} {u : Value} {m sz : Nat} {xs : List Value} (h : Rd w u m sz xs) (hb : B w w') : Rd w' u m sz xs := h.ext (Ext.of_B (own := fun _ => False) hb) (fun _ _ => id)
theorem Rd.of_own {w : World} {base sz n : Nat} {e : TypeId} {v : Value} {xs : List Value} (h : w.ownsRow base e sz v n xs) : Rd w v n sz xs := by
  refine ⟨h.1, ?_⟩
  have hl := h.1
  rcases h.2 with ⟨rfl, rfl⟩ | ⟨g, cap, cur, rfl, hg, hh, hc, hm, hs, ht⟩
  · exact ⟨none, 0, rfl, fun _ => ⟨rfl, rfl⟩, Nat.le_refl _, fun ad h => by cases h⟩
  · refine ⟨_, cap, rfl, fun e => (by cases e), hc, fun ad had => ?_⟩
    cases had
    refine ⟨fun _ => Blk.lt (t := e) hh, fun j x hx => ?_⟩
    have hj : j < n * sz := by
      rcases Nat.lt_or_ge j xs.length with h | h
      · omega
      · rw [List.getElem?_eq_none h] at hx; cases hx
    have ea : (⟨g, 0, none⟩ : Addr).add j = ⟨g, j, none⟩ := by unfold Addr.add; split <;> simp_all
    rw [ea, Blk.cell (t := e) hh, ← hx, ← ht]
    simp [hj]
theorem Rd.slice {w : World} {u : Value} {m sz : Nat} {xs : List Value} (h : Rd w u m sz xs) : ∃ A c, u = .slice A m c := by
  obtain ⟨_, A, cap, hv, _⟩ := h; exact ⟨A, cap, hv⟩
theorem Rd.nil (w : World) (sz : Nat) : Rd w (.slice none 0 0) 0 sz [] := ⟨by simp, none, 0, rfl, fun _ => ⟨rfl, rfl⟩, Nat.le_refl _, fun ad h => by cases h⟩
section
variable {P : Program}
/-- append onto an own row, whatever is read -/
theorem append_Rd {w : World} {t ty e : TypeId} {z : Value} {sz bytes : Nat} (ht : P.underlying t = some (.slice e)) (hie : (P.info? e).map (fun i => (i.zero, i.size, i.bytes)) = some (some z, sz, bytes)) (hz : z.cells.size = sz) (hsz : 0 < sz)
    {base n m : Nat} {v u : Value} {xs news : List Value} (hown : w.ownsRow base e sz v n xs) (hu : Rd w u m sz news) (h1 : ∀ x ∈ news, x.oneCell' = true) (h63 : n + m ≤ maxLen) (hroom : (n + m) * bytes ≤ 140737488355328) (hbase : base ≤ w.heap.size) :
    ∃ v' w', (Builtin.append_ #[t, t] ty #[v, u]).run P w = .ok v' w' ∧ w'.ownsRow base e sz v' (n + m) (xs ++ news) ∧ w.grownBy w' v.ownBlock ∧ (v'.ownBlock = v.ownBlock ∨ v'.ownBlock = some w.heap.size) := by
  obtain ⟨i, hi, hz0, hs, hb⟩ := info_parts hie
  obtain ⟨hl, A, cap, rfl, hn, hc, hr⟩ := hu
  cases A with
  | none =>
    obtain ⟨rfl, rfl⟩ := hn rfl
    have hnil : news = [] := List.eq_nil_of_length_eq_zero (by simpa using hl)
    subst hnil
    refine ⟨v, w, ?_, by simpa using hown, World.grownBy.refl w _, .inl rfl⟩
    rcases hown.2 with ⟨rfl, rfl⟩ | ⟨g, c, cur, rfl, _, _, hnc, _⟩
    · simp [Builtin.append_, run_underlying ht, sizeOf, typeInfo, hi, Builtin.lenOf, Builtin.firstCells]
    · simp [Builtin.append_, run_underlying ht, sizeOf, typeInfo, hi, Builtin.lenOf, Builtin.firstCells, hnc, storeCells]
  | some ad =>
    obtain ⟨v', w', h1, h2, h3, h4, h5⟩ := run_append_own_at (P := P) w base t ty e i z sz bytes ht hi hz0 hs hb hz hsz v n xs hown ad m cap news hl (hr ad rfl).2 h1 h63 hroom hbase
    exact ⟨v', w', h1, h2, h3, h5⟩
end
section
variable {P : Program} {w : World} {ops : Array Oper} {rest : List Oper} {o : Oper} {a : Act} {K : Act → World → Prop} {Q : Exit → Act → World → Prop} {E : Prop}
/-- append onto an own row inside a region that draws -/
theorem step_append_Rd (hgd : o.guard = none) (s x : Operand) (t : TypeId) (ho : o.op = .call { callee := .builtin .append, args := #[s, x], argTypes := #[t, t] })
    {e : TypeId} {z : Value} {sz bytes : Nat} (ht : P.underlying t = some (.slice e)) (hie : (P.info? e).map (fun i => (i.zero, i.size, i.bytes)) = some (some z, sz, bytes)) (hz : z.cells.size = sz) (hsz : 0 < sz)
    {base n m : Nat} {v u : Value} {xs news : List Value} (hs : a.eval s = v) (hx : a.eval x = u) (hown : w.ownsRow base e sz v n xs) (hu : Rd w u m sz news) (h1 : ∀ x ∈ news, x.oneCell' = true) (h63 : n + m ≤ maxLen) (hroom : (n + m) * bytes ≤ 140737488355328) (hbase : base ≤ w.heap.size)
    (h : ∀ A c w', w'.ownsRow base e sz (.slice A (n + m) c) (n + m) (xs ++ news) → w.grownBy w' v.ownBlock → ((Value.slice A (n + m) c).ownBlock = v.ownBlock ∨ (Value.slice A (n + m) c).ownBlock = some w.heap.size) → K (a.put o.dst (.slice A (n + m) c)) w') :
    if Region.wanted o (yielded ops a.tmps) = true then Oper.wp P o a w K Q else E := by
  obtain ⟨v', w', hrun, h2, h3, h4⟩ := append_Rd (P := P) (t := t) (ty := o.type) ht hie hz hsz hown hu h1 h63 hroom hbase
  obtain ⟨A, c, rfl⟩ := own_slice h2
  exact step_append_run hgd s x t ho hs hx hrun (h A c w' h2 h3 h4)
theorem wpList_append_Rd (hgd : o.guard = none) (s x : Operand) (t : TypeId) (ho : o.op = .call { callee := .builtin .append, args := #[s, x], argTypes := #[t, t] })
    {e : TypeId} {z : Value} {sz bytes : Nat} (ht : P.underlying t = some (.slice e)) (hie : (P.info? e).map (fun i => (i.zero, i.size, i.bytes)) = some (some z, sz, bytes)) (hz : z.cells.size = sz) (hsz : 0 < sz)
    {base n m : Nat} {v u : Value} {xs news : List Value} (hs : a.eval s = v) (hx : a.eval x = u) (hown : w.ownsRow base e sz v n xs) (hu : Rd w u m sz news) (h1 : ∀ x ∈ news, x.oneCell' = true) (h63 : n + m ≤ maxLen) (hroom : (n + m) * bytes ≤ 140737488355328) (hbase : base ≤ w.heap.size)
    (h : ∀ A c w', w'.ownsRow base e sz (.slice A (n + m) c) (n + m) (xs ++ news) → w.grownBy w' v.ownBlock → ((Value.slice A (n + m) c).ownBlock = v.ownBlock ∨ (Value.slice A (n + m) c).ownBlock = some w.heap.size) → wpList P ops Q rest (a.put o.dst (.slice A (n + m) c)) w') :
    wpList P ops Q (o :: rest) a w := by
  obtain ⟨v', w', hrun, h2, h3, h4⟩ := append_Rd (P := P) (t := t) (ty := o.type) ht hie hz hsz hown hu h1 h63 hroom hbase
  obtain ⟨A, c, rfl⟩ := own_slice h2
  exact wpList_append_run hgd s x t ho hs hx hrun (h A c w' h2 h3 h4)
end
theorem Bs.rd {w : World} {v : Value} {bs : List UInt8} (h : Bs w v bs) : Rd w v bs.length 1 (cellsB bs) := by
  obtain ⟨⟨A, cap, rfl, hn, hc, hm, hr⟩, hl⟩ := h
  refine ⟨by rw [cellsB_len]; omega, A, cap, rfl, fun e => ?_, hc, fun ad had => ?_⟩
  · obtain ⟨rfl, rfl⟩ := hn e; exact ⟨rfl, rfl⟩
  · obtain ⟨h1, h2⟩ := hr ad had
    exact ⟨fun h0 => h1 (fun e => by subst e; simp at h0), h2⟩
theorem Rd.one (w : World) (x : Value) (t : TypeId) : Rd (w.alloc (.cells #[x] t)) (.slice (some ⟨w.heap.size, 0, none⟩) 1 1) 1 1 [x] := by
  refine ⟨rfl, _, 1, rfl, fun e => (by cases e), Nat.le_refl _, fun ad had => ?_⟩
  cases had
  exact ⟨fun _ => by simp, cell_one_new w x t⟩
theorem Rd.two (w : World) (x y : Value) (t : TypeId) : Rd (w.alloc (.cells #[x, y] t)) (.slice (some ⟨w.heap.size, 0, none⟩) 1 1) 1 2 [x, y] := by
  refine ⟨rfl, _, 1, rfl, fun e => (by cases e), Nat.le_refl _, fun ad had => ?_⟩
  cases had
  refine ⟨fun _ => by simp, fun j u hu => ?_⟩
  match j, hu with
  | 0, h => simp [Addr.add] at h ⊢; exact h
  | 1, h => simp [Addr.add] at h ⊢; exact h
  | j + 2, h => simp at h
theorem Rd.grown {w w' : World} {u : Value} {m sz : Nat} {xs : List Value} {row : Option Nat} (h : Rd w u m sz xs) (hg : w.grownBy w' row) (hn : ∀ g, u.ownBlock = some g → some g ≠ row) : Rd w' u m sz xs :=
  h.ext ((Ext.refl (fun g => some g = row) w).grown hg (fun g e _ => e.symm)) hn
theorem ownNil (w : World) (b e s : Nat) : w.ownsRow b e s (.slice none 0 0) 0 [] := ⟨by simp, .inl ⟨rfl, rfl⟩⟩
theorem ownEmpty (w : World) (e s : Nat) : (w.alloc (.cells #[] e)).ownsRow w.heap.size e s (.slice (some ⟨w.heap.size, 0, none⟩) 0 0) 0 [] :=
  ⟨by simp, .inr ⟨_, 0, #[], rfl, Nat.le_refl _, heap_alloc_new w _, Nat.le_refl _, by unfold maxLen; omega, by simp, by simp⟩⟩
theorem B.grown {w w' w'' : World} {row : Option Nat} (h : B w w') (hg : w'.grownBy w'' row) (hr : ∀ k, row = some k → w.heap.size ≤ k) : B w w'' := Below.grown h hg h.size hr
end Go.Proofs.YtoikjgcggmemaaaGreatDoor

/- Objects that lie apart: 'St W w L': what was there at W is as it was, and the objects L lie in blocks made since, no block in two of them. No program here. -/
namespace Go.Proofs.YtoikjgcggmemaaaGreatDoor
open Go.RowKit
set_option linter.unusedVariables false

/-- an object in memory: what it says of the blocks 'own' alone -/
structure Asn where
  at_ : (Nat → Prop) → World → Prop
  ext : ∀ {own own' : Nat → Prop} {w w' : World}, at_ own w → Ext own' w w' → (∀ b, own b → ¬ own' b) → at_ own w'
  bound : ∀ {own : Nat → Prop} {w : World}, at_ own w → at_ (fun x => own x ∧ x < w.heap.size) w

def Sep (w : World) : (Nat → Prop) → List Asn → Prop
  | _, [] => True
  | U, A :: L => ∃ own : Nat → Prop, (∀ b, own b → U b ∧ b < w.heap.size) ∧ A.at_ own w ∧ Sep w (fun b => U b ∧ ¬ own b) L
theorem Sep.mono {w : World} {U U' : Nat → Prop} {L : List Asn} (h : Sep w U L) (hs : ∀ b, b < w.heap.size → U b → U' b) : Sep w U' L := by
  induction L generalizing U U' with
  | nil => trivial
  | cons A L ih =>
    obtain ⟨own, h1, h2, h3⟩ := h
    exact ⟨own, fun b hb => ⟨hs b (h1 b hb).2 (h1 b hb).1, (h1 b hb).2⟩, h2, ih h3 (fun b hl hb => ⟨hs b hl hb.1, hb.2⟩)⟩
theorem Sep.ext {own : Nat → Prop} {w w' : World} {U : Nat → Prop} {L : List Asn} (h : Sep w U L) (hx : Ext own w w') (hd : ∀ b, b < w.heap.size → U b → ¬ own b) : Sep w' (fun b => U b ∧ b < w.heap.size) L := by
  induction L generalizing U with
  | nil => trivial
  | cons A L ih =>
    obtain ⟨o, h1, h2, h3⟩ := h
    refine ⟨o, fun b hb => ⟨⟨(h1 b hb).1, (h1 b hb).2⟩, Nat.lt_of_lt_of_le (h1 b hb).2 hx.size⟩, A.ext h2 hx (fun b hb => hd b (h1 b hb).2 (h1 b hb).1), ?_⟩
    exact (ih h3 (fun b hl hb => hd b hl hb.1)).mono (fun b _ hb => ⟨⟨hb.1.1, hb.2⟩, hb.1.2⟩)
theorem Sep.swap {w : World} {U : Nat → Prop} {A C : Asn} {L : List Asn} (h : Sep w U (A :: C :: L)) : Sep w U (C :: A :: L) := by
  obtain ⟨o, h1, h2, o', h3, h4, h5⟩ := h
  exact ⟨o', fun b hb => ⟨(h3 b hb).1.1, (h3 b hb).2⟩, h4, o, fun b hb => ⟨⟨(h1 b hb).1, fun e => (h3 b e).1.2 hb⟩, (h1 b hb).2⟩, h2, h5.mono (fun b _ hb => ⟨⟨hb.1.1, hb.2⟩, hb.1.2⟩)⟩

/-- the state of a call that began at W: old memory as it was, the objects L apart -/
def St (W w : World) (L : List Asn) : Prop := B W w ∧ Sep w (fun b => W.heap.size ≤ b) L
section
variable {W w w' : World} {A C D : Asn} {L : List Asn}
theorem St.nil (W : World) : St W W [] := ⟨Below.refl _ _, trivial⟩
theorem St.b (h : St W w L) : B W w := h.1
theorem St.swap (h : St W w (A :: C :: L)) : St W w (C :: A :: L) := ⟨h.1, h.2.swap⟩
theorem St.rot3 (h : St W w (A :: C :: D :: L)) : St W w (D :: A :: C :: L) := by
  obtain ⟨hb, o, h1, h2, h3⟩ := h
  exact St.swap ⟨hb, o, h1, h2, h3.swap⟩
theorem St.drop (h : St W w (A :: L)) : St W w L := by
  obtain ⟨hb, o, h1, h2, h3⟩ := h
  exact ⟨hb, h3.mono (fun b _ hb => hb.1)⟩
theorem St.drop2 (h : St W w (A :: C :: L)) : St W w (A :: L) := h.swap.drop
theorem St.later (h : St W w L) (hb : B w w') : St W w' L :=
  ⟨h.1.trans hb, (h.2.ext (Ext.of_B (own := fun _ => False) hb) (fun _ _ _ => id)).mono (fun b _ hb => hb.1)⟩
/-- a new object -/
theorem St.add (h : St W w L) (hb : B w w') {own : Nat → Prop} (ha : A.at_ own w') (ho : ∀ x, own x → w.heap.size ≤ x) : St W w' (A :: L) := by
  refine ⟨h.1.trans hb, _, fun b hb' => ⟨?_, hb'.2⟩, A.bound ha, ?_⟩
  · have := ho b hb'.1; have := h.1.size; show W.heap.size ≤ b; omega
  · exact (h.2.ext (Ext.of_B (own := fun _ => False) hb) (fun _ _ _ => id)).mono (fun b _ hb' => ⟨hb'.1, fun e => by have := ho b e.1; omega⟩)
theorem St.back {own : Nat → Prop} (hb : B W w) (h1 : ∀ b, own b → W.heap.size ≤ b ∧ b < w.heap.size) (h3 : Sep w (fun b => W.heap.size ≤ b ∧ ¬ own b) L) {w' : World} {A' : Asn} (hx : Ext own w w') (ha : A'.at_ (fun x => own x ∨ w.heap.size ≤ x) w') : St W w' (A' :: L) := by
  refine ⟨?_, _, fun b hb' => ⟨?_, hb'.2⟩, A'.bound ha, ?_⟩
  · exact (((Ext.of_B (own := own) hb).trans_ hx).to_B (fun x hx' e => by have := (h1 x e).1; omega))
  · rcases hb'.1 with e | e
    · exact (h1 b e).1
    · have := hb.size; show W.heap.size ≤ b; omega
  · exact (h3.ext hx (fun b _ hb' => hb'.2)).mono (fun b _ hb' => ⟨hb'.1.1, fun e => e.1.elim (fun e => hb'.1.2 e) (fun e => by omega)⟩)
/-- the first object by itself, and back -/
theorem St.focus (h : St W w (A :: L)) : ∃ own : Nat → Prop, A.at_ own w ∧ (∀ x, own x → W.heap.size ≤ x ∧ x < w.heap.size) ∧
    ∀ (w' : World) (A' : Asn), Ext own w w' → A'.at_ (fun x => own x ∨ w.heap.size ≤ x) w' → St W w' (A' :: L) := by
  obtain ⟨hb, own, h1, h2, h3⟩ := h
  exact ⟨own, h2, h1, fun w' A' hx ha => St.back hb h1 h3 hx ha⟩
/-- the first beside the second -/
theorem St.focus2 (h : St W w (A :: C :: L)) : ∃ own own' : Nat → Prop, A.at_ own w ∧ C.at_ own' w ∧ (∀ x, own x → W.heap.size ≤ x ∧ x < w.heap.size) ∧ (∀ x, own' x → ¬ own x) ∧
    ∀ (w' : World) (A' : Asn), Ext own w w' → A'.at_ (fun x => own x ∨ w.heap.size ≤ x) w' → St W w' (A' :: C :: L) := by
  obtain ⟨hb, own, h1, h2, h3⟩ := h
  obtain ⟨o', k1, k2, k3⟩ := id h3
  exact ⟨own, o', h2, k2, h1, fun x hx => (k1 x hx).1.2, fun w' A' hx ha => St.back hb h1 h3 hx ha⟩
/-- some blocks of its own, known whole -/
theorem St.get (h : St W w (A :: L)) : ∃ own : Nat → Prop, A.at_ own w ∧ (∀ x, own x → W.heap.size ≤ x ∧ x < w.heap.size) := by
  obtain ⟨own, h1, h2, _⟩ := h.focus
  exact ⟨own, h1, h2⟩
/-- another way to say what the first object is -/
theorem St.conv (h : St W w (A :: L)) (hc : ∀ own, A.at_ own w → C.at_ own w) : St W w (C :: L) := by
  obtain ⟨hb, own, h1, h2, h3⟩ := h
  exact ⟨hb, own, h1, hc own h2, h3⟩
end
/-- a block known whole -/
def aBlk (g : Nat) (t : TypeId) (cs : Array Value) : Asn where
  at_ own w := own g ∧ Blk w g t cs
  ext h hx hd := ⟨h.1, h.2.ext hx (hd _ h.1)⟩
  bound h := ⟨⟨h.1, h.2.lt⟩, h.2⟩
theorem aBlk.new {W w : World} {L : List Asn} (h : St W w L) (t : TypeId) (cs : Array Value) : St W (w.alloc (.cells cs t)) (aBlk w.heap.size t cs :: L) :=
  h.add (B.alloc' _ _) (A := aBlk w.heap.size t cs) (own := fun x => x = w.heap.size) ⟨rfl, Blk.new w t cs⟩ (fun x e => by omega)
theorem aBlk.set {W w : World} {L : List Asn} {g : Nat} {t : TypeId} {cs : Array Value} (h : St W w (aBlk g t cs :: L)) (i : Nat) (u : Value) : St W (w.setCell ⟨g, i, none⟩ u) (aBlk g t (cs.setIfInBounds i u) :: L) := by
  obtain ⟨own, h1, h2, h3⟩ := h.focus
  exact h3 _ (aBlk g t (cs.setIfInBounds i u)) ((Ext.refl own w).set (p := ⟨g, i, none⟩) (fun _ => h1.1) _) ⟨.inl h1.1, h1.2.set_ i u⟩
theorem aBlk.get {W w : World} {L : List Asn} {g : Nat} {t : TypeId} {cs : Array Value} (h : St W w (aBlk g t cs :: L)) : Blk w g t cs := by
  obtain ⟨own, h1, h2⟩ := h.get; exact h1.2
/-- a byte slice in blocks of its own -/
def aBs (v : Value) (b : List UInt8) : Asn where
  at_ own w := Bs w v b ∧ ∀ g, v.ownBlock = some g → b ≠ [] → own g
  ext h hx hd := ⟨h.1.ext hx (fun g hg hne => hd g (h.2 g hg hne)), h.2⟩
  bound h := ⟨h.1, fun g hg hne => ⟨h.2 g hg hne, h.1.lt hne hg⟩⟩
/-- a row of its own -/
def aRow (e : TypeId) (sz : Nat) (v : Value) (n : Nat) (xs : List Value) : Asn where
  at_ own w := w.ownsRow 0 e sz v n xs ∧ ∀ g, v.ownBlock = some g → own g
  ext h hx hd := ⟨row_ext h.1 hx (fun g hg => hd g (h.2 g hg)), h.2⟩
  bound h := ⟨h.1, fun g hg => ⟨h.2 g hg, row_lt h.1 hg⟩⟩
end Go.Proofs.YtoikjgcggmemaaaGreatDoor
