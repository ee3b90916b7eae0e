/- Byte slices: 'Bs w v bs': the slice value v reads as the bytes bs. No program here. -/
import Derived.Test.YthgpkbhilkdckaaH0
import Derived.Laws.BytesArg
namespace Go.Proofs.Ythgpkbhilkdckaa
open Go.RowKit
set_option linter.unusedVariables false

def cellsB (bs : List UInt8) : List Value := bs.map fun b => .int .u8 b.toNat
theorem cellsB_len (bs : List UInt8) : (cellsB bs).length = bs.length := by simp [cellsB]
theorem cellsB_app (a b : List UInt8) : cellsB (a ++ b) = cellsB a ++ cellsB b := by simp [cellsB]
theorem cellsB_get (bs : List UInt8) (j : Nat) (h : j < bs.length) : (cellsB bs)[j]? = some (.int .u8 (bs[j]).toNat) := by simp [cellsB, h]
theorem cellsB_one (bs : List UInt8) : ∀ u ∈ cellsB bs, u.oneCell' = true := by
  intro u hu
  simp only [cellsB, List.mem_map] at hu
  obtain ⟨b, _, rfl⟩ := hu
  rfl
def bstr (bs : List UInt8) : ByteArray := ⟨bs.toArray⟩
theorem bstr_toList (bs : List UInt8) : (bstr bs).toList = bs := by rw [ByteArray.toList_eq]; rfl
theorem bstr_inj {a b : List UInt8} (h : bstr a = bstr b) : a = b := by rw [← bstr_toList a, h, bstr_toList]

def big : Nat := 140737488355328
structure Bs (w : World) (v : Value) (bs : List UInt8) : Prop where
  ex : ∃ (A : Option Addr) (cap : Nat), v = .slice A bs.length cap ∧ (A = none → bs = [] ∧ cap = 0) ∧ bs.length ≤ cap ∧ cap ≤ maxLen ∧
    ∀ ad, A = some ad → (bs ≠ [] → ad.block < w.heap.size) ∧ ∀ j u, (cellsB bs)[j]? = some u → w.cell? (ad.add j) = some u
  len : bs.length ≤ big

theorem block_of_add (a : Addr) (n : Nat) : (a.add n).block = a.block := by unfold Addr.add; split <;> rfl
theorem Bs.nil (w : World) : Bs w (.slice none 0 0) [] := ⟨⟨none, 0, rfl, fun _ => ⟨rfl, rfl⟩, Nat.le_refl _, by unfold maxLen; omega, fun ad h => by cases h⟩, by simp [big]⟩
theorem Bs.ext {own : Nat → Prop} {w w' : World} {v : Value} {bs : List UInt8} (h : Bs w v bs) (hb : Ext own w w') (hd : ∀ g, v.ownBlock = some g → bs ≠ [] → ¬ own g) : Bs w' v bs := by
  obtain ⟨⟨A, cap, hv, hn, hc, hm, hr⟩, hl⟩ := h
  refine ⟨⟨A, cap, hv, hn, hc, hm, fun ad had => ?_⟩, hl⟩
  obtain ⟨h1, h2⟩ := hr ad had
  exact ⟨fun hne => Nat.lt_of_lt_of_le (h1 hne) hb.size, fun j u hu => hb.cell (by
    rw [block_of_add]
    exact hd _ (by rw [hv, had]; rfl) (fun e => by subst e; simp [cellsB] at hu)) (h2 j u hu)⟩
theorem Bs.later {w w' : World} {v : Value} {bs : List UInt8} (h : Bs w v bs) (hb : B w w') : Bs w' v bs := h.ext (Ext.of_B (own := fun _ => False) hb) (fun _ _ _ => id)
theorem Bs.lt {w : World} {v : Value} {bs : List UInt8} (h : Bs w v bs) (hne : bs ≠ []) {g : Nat} (hg : v.ownBlock = some g) : g < w.heap.size := by
  obtain ⟨⟨A, cap, rfl, hn, hc, hm, hr⟩, hl⟩ := h
  cases A with
  | none => simp [Value.ownBlock] at hg
  | some ad =>
    have : ad.block = g := by simpa [Value.ownBlock] using hg
    rw [← this]; exact (hr ad rfl).1 hne
theorem Bs.of_own {w : World} {base : Nat} {e : TypeId} {v : Value} {bs : List UInt8} (h : w.ownsRow base e 1 v bs.length (cellsB bs)) (hl : bs.length ≤ big) : Bs w v bs := by
  obtain ⟨h1, h2⟩ := h
  rcases h2 with ⟨rfl, h0⟩ | ⟨g, cap, cur, rfl, hg, hh, hc, hm, hs, ht⟩
  · have : bs = [] := List.eq_nil_of_length_eq_zero h0
    subst this; exact Bs.nil w
  · refine ⟨⟨_, cap, rfl, fun e => (by cases e), hc, hm, fun ad had => ?_⟩, hl⟩
    cases had
    refine ⟨fun _ => Blk.lt (t := e) hh, fun j u hu => ?_⟩
    have hj : j < bs.length := by
      rcases Nat.lt_or_ge j bs.length with h | h
      · exact h
      · rw [List.getElem?_eq_none (by rw [cellsB_len]; exact h)] at hu; cases hu
    have ea : (⟨g, 0, none⟩ : Addr).add j = ⟨g, j, none⟩ := by unfold Addr.add; split <;> simp_all
    rw [ea, Blk.cell (t := e) hh, ← hu, ← ht]
    simp [hj]

section
variable {P : Program}
/-- 'string(b)' -/
theorem Bs.conv {w : World} {v : Value} {bs : List UInt8} (h : Bs w v bs) {src dst e : TypeId} (hs : P.underlying src = some (.slice e)) (he : P.underlying e = some (.int .u8)) (hd : P.underlying dst = some .string) :
    (convert src dst v).run P w = .ok (.string (bstr bs)) w := by
  obtain ⟨⟨A, cap, rfl, hn, hc, hm, hr⟩, hl⟩ := h
  cases A with
  | none =>
    rw [(hn rfl).1]
    exact run_convert_bytes_nil w src e hs he _ _ dst hd
  | some ad =>
    have hx : (bs.map fun b => (b.toNat : Int)).length = bs.length := by simp
    have hl : (loadCells ad bs.length).run P w = .ok ((bs.map fun b => (b.toNat : Int)).map (Value.int .u8)).toArray w := by
      have := run_loadCells_list (P := P) w ad (cellsB bs) ((hr ad rfl).2)
      simpa [cellsB, Function.comp_def] using this
    rw [run_convert_bytes_string w src dst e _ _ cap hs he hd, run_bytesToString w _ _ cap _ hl, foldl_push_bytes]
    simp [bstr, ByteArray.empty, ByteArray.emptyWithCapacity, Function.comp_def]
    rfl

/-- a slice against nil -/
theorem Bs.isNil {w : World} {v : Value} {bs : List UInt8} (h : Bs w v bs) : (v = .slice none 0 0 ∧ bs = []) ∨ ∃ ad cap, v = .slice (some ad) bs.length cap := by
  obtain ⟨⟨A, cap, rfl, hn, hc, hm, hr⟩, hl⟩ := h
  cases A with
  | none => obtain ⟨h1, h2⟩ := hn rfl; subst h1 h2; exact .inl ⟨rfl, rfl⟩
  | some ad => exact .inr ⟨ad, cap, rfl⟩

/-- append of bytes onto an own row -/
theorem append_Bs {w : World} {t ty e : TypeId} (ht : P.underlying t = some (.slice e)) (hi5 : (P.info? e).map (fun i => (i.zero, i.size, i.bytes)) = some (some (.int .u8 0), 1, 1))
    {base : Nat} {v u : Value} {xs bs : List UInt8} (hown : w.ownsRow base e 1 v xs.length (cellsB xs)) (hu : Bs w u bs) (hroom : xs.length + bs.length ≤ big) (hbase : base ≤ w.heap.size) :
    ∃ v' w', (Builtin.append_ #[t, t] ty #[v, u]).run P w = .ok v' w' ∧ w'.ownsRow base e 1 v' (xs ++ bs).length (cellsB (xs ++ bs)) ∧ w.grownBy w' v.ownBlock ∧ (v'.ownBlock = v.ownBlock ∨ v'.ownBlock = some w.heap.size) := by
  obtain ⟨i, hi, hz, hs, hb⟩ := info_parts hi5
  obtain ⟨⟨A, cap, rfl, hn, hc, hm, hr⟩, hl⟩ := hu
  unfold big at hroom hl
  cases A with
  | none =>
    obtain ⟨rfl, rfl⟩ := hn rfl
    refine ⟨v, w, ?_, by simpa using hown, World.grownBy.refl w _, .inl rfl⟩
    rcases hown.2 with ⟨rfl, _⟩ | ⟨g, c, cur, rfl, _, _, hnc, _⟩
    · simp [Builtin.append_, run_underlying ht, sizeOf, typeInfo, hi, Builtin.lenOf, Builtin.firstCells]
    · simp [Builtin.append_, run_underlying ht, sizeOf, typeInfo, hi, Builtin.lenOf, Builtin.firstCells, hnc, storeCells]
  | some ad =>
    obtain ⟨v', w', h1, h2, h3, h4, h5⟩ := run_append_own_at (P := P) w base t ty e i (.int .u8 0) 1 1 ht hi hz hs hb rfl (by omega) v xs.length (cellsB xs) hown ad bs.length cap (cellsB bs) (by rw [cellsB_len]; omega) (hr ad rfl).2 (cellsB_one bs) (by unfold maxLen; omega) (by omega) hbase
    exact ⟨v', w', h1, by rw [List.length_append, cellsB_app]; exact h2, h3, h5⟩
end
end Go.Proofs.Ythgpkbhilkdckaa
