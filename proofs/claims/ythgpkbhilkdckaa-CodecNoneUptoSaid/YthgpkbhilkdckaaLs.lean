/- Slices of byte slices, read: 'Lss inn w v L'. No program here. -/
import Derived.Test.YthgpkbhilkdckaaOg
import Derived.Test.YthgpkbhilkdckaaTb
namespace Go.Proofs.Ythgpkbhilkdckaa
open Go.ChangeShapes Go.WideShapes Go.ChangeAt Go.RowKit Go.Deep
set_option linter.unusedVariables false

/-- the slice value v reads as the byte strings L; all that is read lies in blocks of 'inn' -/
def Lss (inn : Nat → Prop) (w : World) (v : Value) (L : List (List UInt8)) : Prop :=
  ∃ (A : Option Addr) (cap : Nat), v = .slice A L.length cap ∧ (A = none → L.length = 0 ∧ cap = 0) ∧ L.length ≤ cap ∧ cap ≤ maxLen ∧ (0 < L.length → ∃ b off, A = some ⟨b, off, none⟩ ∧ b < w.heap.size ∧ inn b ∧
    ∀ i x, L[i]? = some x → ∃ u, w.cell? ⟨b, off + i, none⟩ = some u ∧ Bs w u x ∧ ∀ g, u.ownBlock = some g → x ≠ [] → inn g)
theorem Lss.ext {inn own : Nat → Prop} {w w' : World} {v : Value} {L : List (List UInt8)} (h : Lss inn w v L) (hb : Ext own w w') (hd : ∀ g, inn g → ¬ own g) : Lss inn w' v L := by
  obtain ⟨A, cap, rfl, hn, hc, hm, hr⟩ := h
  refine ⟨A, cap, rfl, hn, hc, hm, fun h0 => ?_⟩
  obtain ⟨b, off, rfl, hb1, hi, hx⟩ := hr h0
  refine ⟨b, off, rfl, Nat.lt_of_lt_of_le hb1 hb.size, hi, fun i x hix => ?_⟩
  obtain ⟨u, h1, h2, h3⟩ := hx i x hix
  exact ⟨u, hb.cell (hd b hi) h1, h2.ext hb (fun g hg hne => hd g (h3 g hg hne)), h3⟩
theorem Lss.later {inn : Nat → Prop} {w w' : World} {v : Value} {L : List (List UInt8)} (h : Lss inn w v L) (hb : B w w') : Lss inn w' v L := h.ext (Ext.of_B (own := fun _ => False) hb) (fun _ _ => id)
theorem Lss.mono {inn inn' : Nat → Prop} {w : World} {v : Value} {L : List (List UInt8)} (h : Lss inn w v L) (hs : ∀ g, inn g → inn' g) : Lss inn' w v L := by
  obtain ⟨A, cap, rfl, hn, hc, hm, hr⟩ := h
  refine ⟨A, cap, rfl, hn, hc, hm, fun h0 => ?_⟩
  obtain ⟨b, off, rfl, hb1, hi, hx⟩ := hr h0
  refine ⟨b, off, rfl, hb1, hs _ hi, fun i x hix => ?_⟩
  obtain ⟨u, h1, h2, h3⟩ := hx i x hix
  exact ⟨u, h1, h2, fun g hg hne => hs _ (h3 g hg hne)⟩
/-- a row of byte strings of an object's own -/
theorem Lss.of_own {own : Nat → Prop} {w : World} {base : Nat} {e : TypeId} {v : Value} {vs : List Value} {M : List (List UInt8)} (h : w.ownsRow base e 1 v M.length vs) (he : Els own w vs M) (ho : ∀ g, v.ownBlock = some g → own g) : Lss own w v M := by
  rcases h.2 with ⟨rfl, h0⟩ | ⟨g, cap, cur, rfl, hg, hh, hc, hm, hs, ht⟩
  · exact ⟨none, 0, by rw [h0], fun _ => ⟨h0, rfl⟩, by omega, by unfold maxLen; omega, fun h => by omega⟩
  · refine ⟨_, cap, rfl, fun e => (by cases e), hc, hm, fun h0 => ⟨g, 0, rfl, Blk.lt (t := e) hh, ho g rfl, fun i x hx => ?_⟩⟩
    have hi : i < M.length := by
      rcases Nat.lt_or_ge i M.length with h | h
      · exact h
      · rw [List.getElem?_eq_none h] at hx; cases hx
    have hvl : i < vs.length := by rw [he.1]; exact hi
    have hv : vs[i]? = some vs[i] := List.getElem?_eq_getElem hvl
    obtain ⟨r1, r2, r3⟩ := he.2 i _ x hv hx
    refine ⟨vs[i], ?_, Bs.of_own r1 r2, fun g hg _ => r3 g hg⟩
    rw [Nat.zero_add, Blk.cell (t := e) hh, ← hv, ← ht]
    rw [List.getElem?_take, if_pos (by omega)]
    simp

section
variable {H : Type} {enc : TypeId × Value → H} {P : Program} {w : World} {base : Nat} {held : Bool} {spare : Nat → Bool}
/-- one byte slice out of a reading -/
theorem bs_of_trod {fuel : Nat} {t e : TypeId} {c : Value} {x : DataW H × List MemPlace} (ht : P.underlying t = some (.slice e)) (he : P.underlying e = some (.int .u8)) (hC : P.cellsOf e = 1)
    (h : DataW.trod enc P w base spare held fuel t [c] = some x) (hbig : ∀ len cap a, c = .slice a len cap → len ≤ big) : ∃ bs, Bs w c bs := by
  rcases open_slice ht h with ⟨h2, h3⟩ | ⟨a, len, cap, m, n, D, Pl, hcs, hb, hl, hm, hmm, hx, hi⟩
  · simp at h2
    subst h2
    exact ⟨[], Bs.nil w⟩
  · simp at hcs
    subst hcs
    have hlm : len ≤ m := by rw [hmm]; split <;> omega
    obtain ⟨bs, hbl, hbs⟩ := list_choose (P := fun i (b : UInt8) => w.cell? (a.add i) = some (.int .u8 (b.toNat : Int))) len (fun i hil => by
      obtain ⟨cs', hc, htr⟩ := hi i (by omega)
      rw [hC] at hc
      obtain ⟨_, hcl, hcat⟩ := World.cells?_some hc
      obtain ⟨k, rfl, _, hw⟩ := DataW.trod_int he htr
      have hk : 0 ≤ k ∧ k ≤ 255 := by simpa [Lit.wf, IntKind.min, IntKind.max, IntKind.signed, IntKind.bits] using hw
      refine ⟨UInt8.ofNat k.toNat, ?_⟩
      have := hcat 0 (by omega)
      have e1 : ((UInt8.ofNat k.toNat).toNat : Int) = k := by
        rw [UInt8.toNat_ofNat']; omega
      rw [e1]
      simpa [Addr.add] using this)
    refine ⟨bs, ⟨⟨some a, cap, by rw [hbl], fun e => (by cases e), by omega, hm, fun ad had => ?_⟩, by rw [hbl]; exact hbig len cap (some a) rfl⟩⟩
    cases had
    have hget : ∀ j u, (cellsB bs)[j]? = some u → w.cell? (a.add j) = some u := fun j u hu => by
      have hj : j < bs.length := by
        rcases Nat.lt_or_ge j bs.length with h | h
        · exact h
        · rw [List.getElem?_eq_none (by rw [cellsB_len]; exact h)] at hu; cases hu
      rw [cellsB_get bs j hj] at hu
      rw [← hu]
      exact hbs j _ (List.getElem?_eq_getElem hj)
    refine ⟨fun hne => ?_, hget⟩
    have h0 : 0 < bs.length := List.length_pos_iff.2 hne
    have := World.block_lt_of_cell? w _ (hget 0 _ (cellsB_get bs 0 h0))
    rwa [block_of_add] at this
end
end Go.Proofs.Ythgpkbhilkdckaa
