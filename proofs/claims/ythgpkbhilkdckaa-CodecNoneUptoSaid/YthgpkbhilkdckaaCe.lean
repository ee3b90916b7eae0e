/- Byte slices cut; which number bytes say. -/
import Derived.Test.YthgpkbhilkdckaaCd
namespace Go.Proofs.Ythgpkbhilkdckaa
open Go.RowKit Go.Deep
set_option linter.unusedVariables false

/-- where the bytes lie -/
theorem Bs.form {w : World} {v : Value} {bs : List UInt8} (h : Bs w v bs) : ∃ (A : Option Addr) (cap : Nat), v = .slice A bs.length cap ∧ bs.length ≤ cap ∧ cap ≤ maxLen ∧ (0 < bs.length → ∃ b off, A = some ⟨b, off, none⟩ ∧ b < w.heap.size ∧ ∀ j x, bs[j]? = some x → w.cell? ⟨b, off + j, none⟩ = some (.int .u8 (x.toNat : Int))) := by
  obtain ⟨⟨A, cap, rfl, hn, hc, hm, hr⟩, hl⟩ := h
  refine ⟨A, cap, rfl, hc, hm, fun h0 => ?_⟩
  cases A with
  | none => have := (hn rfl).1; subst this; simp at h0
  | some ad =>
    obtain ⟨h1, h2⟩ := hr ad rfl
    have c0 := h2 0 _ (cellsB_get bs 0 h0)
    have za : ad = ⟨ad.block, ad.off, none⟩ := by
      have := cell_spot c0
      simp [Addr.add] at this
      exact this
    refine ⟨ad.block, ad.off, by rw [← za], h1 (fun e => by subst e; simp at h0), fun j x hx => ?_⟩
    have hj : j < bs.length := by
      rcases Nat.lt_or_ge j bs.length with h | h
      · exact h
      · rw [List.getElem?_eq_none h] at hx; cases hx
    have := h2 j _ (cellsB_get bs j hj)
    rw [za, addr_add] at this
    rw [this]
    rw [List.getElem?_eq_getElem hj] at hx
    cases hx; rfl
theorem size5 (w : World) : (sizeOf 5).run Try.prog w = .ok 1 w := by kernel_rfl
theorem elem47 : Try.prog.elem 47 = 5 := by kernel_rfl
theorem add_of_add (a : Addr) (i j : Nat) : (a.add i).add j = a.add (i + j) := by
  unfold Addr.add
  by_cases hi : i = 0 <;> by_cases hj : j = 0 <;> simp [hi, hj, Nat.add_assoc]
theorem cellsB_drop (bs : List UInt8) (k j : Nat) : (cellsB (bs.drop k))[j]? = (cellsB bs)[k + j]? := by
  simp [cellsB, List.getElem?_drop]
theorem cellsB_take (bs : List UInt8) (k j : Nat) (u : Value) (h : (cellsB (bs.take k))[j]? = some u) : (cellsB bs)[j]? = some u := by
  simp only [cellsB, List.getElem?_map, List.getElem?_take] at h ⊢
  split at h
  · exact h
  · simp at h
/-- 'v[k:]' -/
theorem Bs.cut {w : World} {v : Value} {bs : List UInt8} (h : Bs w v bs) (k : Nat) (hk : k ≤ bs.length) : ∃ A c, (∀ w' : World, (Instr.slice 47 v (some (.int .i64 (k : Int))) none none).run Try.prog w' = .ok (.slice A (bs.length - k) c) w') ∧ (∀ w' : World, (Instr.sliceAt 47 v (some (.int .i64 (k : Int))) none none).run Try.prog w' = .ok (.slice A (bs.length - k) c) w') ∧
    Bs w (.slice A (bs.length - k) c) (bs.drop k) ∧ ∀ g, (Value.slice A (bs.length - k) c).ownBlock = some g → v.ownBlock = some g := by
  obtain ⟨⟨A, cap, rfl, hn, hc, hm, hr⟩, hl⟩ := h
  have hs : ∀ w' : World, (Instr.slice 47 (.slice A bs.length cap) (some (.int .i64 (k : Int))) none none).run Try.prog w' = .ok (.slice (if cap = k then A else A.map (·.add k)) (bs.length - k) (cap - k)) w' := fun w' => by
    rw [run_slice_l (P := Try.prog) (w := w') (t := 47) (a := A) (len := bs.length) (cap := cap) (by rw [elem47]; exact Try.underlying47) .i64 (k : Int) (by omega) (by omega), elem47, size5]
    simp [Result.andThen, sliced]
  refine ⟨_, _, hs, fun w' => ?_, ⟨⟨_, _, by rw [List.length_drop], fun e => ?_, by simp; omega, by omega, fun ad had => ?_⟩, by simp; omega⟩, fun g hg => ?_⟩
  · rw [run_sliceAt_slice (P := Try.prog) (w := w') (t := 47) (h := by rw [elem47]; exact Try.underlying47)]
    exact hs w'
  · by_cases e1 : cap = k
    · rw [if_pos e1] at e
      obtain ⟨rfl, rfl⟩ := hn e
      exact ⟨by simp, by omega⟩
    · rw [if_neg e1] at e
      cases A with
      | none => obtain ⟨rfl, rfl⟩ := hn rfl; exact ⟨by simp, by omega⟩
      | some a => simp at e
  · by_cases e1 : cap = k
    · have : bs.drop k = [] := List.drop_eq_nil_of_le (by omega)
      rw [this]
      exact ⟨fun h => absurd rfl h, fun j u hu => by simp [cellsB] at hu⟩
    · rw [if_neg e1] at had
      cases A with
      | none => simp at had
      | some a =>
        simp at had
        subst had
        obtain ⟨h1, h2⟩ := hr a rfl
        refine ⟨fun hne => by rw [block_of_add]; exact h1 (fun e => hne (by rw [e]; simp)), fun j u hu => ?_⟩
        rw [add_of_add]
        rw [cellsB_drop] at hu
        exact h2 _ u hu
  · by_cases e1 : cap = k
    · rw [if_pos e1] at hg
      cases A with
      | none => simp [Value.ownBlock] at hg
      | some a => simpa [Value.ownBlock] using hg
    · rw [if_neg e1] at hg
      cases A with
      | none => simp [Value.ownBlock] at hg
      | some a => simpa [Value.ownBlock, block_of_add] using hg
/-- 'v[:k]' -/
theorem Bs.cutTo {w : World} {v : Value} {bs : List UInt8} (h : Bs w v bs) (k : Nat) (hk : k ≤ bs.length) : ∃ A c, (∀ w' : World, (Instr.slice 47 v none (some (.int .i64 (k : Int))) none).run Try.prog w' = .ok (.slice A k c) w') ∧ (∀ w' : World, (Instr.sliceAt 47 v none (some (.int .i64 (k : Int))) none).run Try.prog w' = .ok (.slice A k c) w') ∧
    Bs w (.slice A k c) (bs.take k) ∧ ∀ g, (Value.slice A k c).ownBlock = some g → v.ownBlock = some g := by
  obtain ⟨⟨A, cap, rfl, hn, hc, hm, hr⟩, hl⟩ := h
  have hs : ∀ w' : World, (Instr.slice 47 (.slice A bs.length cap) none (some (.int .i64 (k : Int))) none).run Try.prog w' = .ok (.slice A k cap) w' := fun w' => by
    rw [run_slice_h (P := Try.prog) (w := w') (t := 47) (a := A) (len := bs.length) (cap := cap) (by rw [elem47]; exact Try.underlying47) .i64 (k : Int) (by omega) (by omega), elem47, size5]
    simp [Result.andThen, sliced, Addr.add]
  refine ⟨_, _, hs, fun w' => ?_, ⟨⟨_, _, by rw [List.length_take, Nat.min_eq_left hk], fun e => ?_, by simp; omega, hm, fun ad had => ?_⟩, by simp; omega⟩, fun g hg => by
    cases A with
    | none => simp [Value.ownBlock] at hg
    | some a => simpa [Value.ownBlock] using hg⟩
  · rw [run_sliceAt_slice (P := Try.prog) (w := w') (t := 47) (h := by rw [elem47]; exact Try.underlying47)]
    exact hs w'
  · obtain ⟨rfl, rfl⟩ := hn e; exact ⟨by simp, rfl⟩
  · obtain ⟨h1, h2⟩ := hr ad had
    exact ⟨fun hne => h1 (fun e => hne (by rw [e]; simp)), fun j u hu => h2 j u (cellsB_take bs k j u hu)⟩

/-- which number bytes say: the number, what is left, the error -/
def numGo (most : Nat) : Nat → Nat → List UInt8 → Nat × List UInt8 × Int
  | _, _, [] => (0, [], 10)
  | i, acc, c :: r =>
    if i = 9 ∧ 1 < c.toNat then (0, [], 11)
    else if 127 < c.toNat then numGo most (i + 1) (acc + c.toNat % 128 * 128 ^ i) r
    else if (0 < i ∧ c.toNat = 0) ∨ most < acc + c.toNat * 128 ^ i then (0, [], 11)
    else (acc + c.toNat * 128 ^ i, r, 0)
def numS (bs : List UInt8) (e : Int) (most : Nat) : Nat × List UInt8 × Int := if e = 0 then numGo most 0 0 bs else (0, bs, e)
end Go.Proofs.Ythgpkbhilkdckaa
