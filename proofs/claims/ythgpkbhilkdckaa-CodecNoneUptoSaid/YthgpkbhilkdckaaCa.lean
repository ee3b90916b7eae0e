/- The form of a number, as a list of bytes. Plain; and codec.form. -/
import Derived.Test.YthgpkbhilkdckaaIb
namespace Go.Proofs.Ythgpkbhilkdckaa
open Go.RowKit
set_option linter.unusedVariables false

/-- seven bits a byte, the least first -/
def enc (n : Nat) : List UInt8 := if h : n < 128 then [UInt8.ofNat n] else UInt8.ofNat (n % 128 + 128) :: enc (n / 128)
termination_by n
decreasing_by omega
theorem enc_lt {n : Nat} (h : n < 128) : enc n = [UInt8.ofNat n] := by rw [enc, dif_pos h]
theorem enc_ge {n : Nat} (h : ¬ n < 128) : enc n = UInt8.ofNat (n % 128 + 128) :: enc (n / 128) := by rw [enc, dif_neg h]
theorem enc_pos (n : Nat) : 0 < (enc n).length := by
  by_cases h : n < 128
  · rw [enc_lt h]; simp
  · rw [enc_ge h]; simp
theorem enc_le (k : Nat) : ∀ n, n < 128 ^ (k + 1) → (enc n).length ≤ k + 1 := by
  induction k with
  | zero => intro n h; rw [enc_lt (by simpa using h)]; simp
  | succ k ih =>
    intro n h
    by_cases hn : n < 128
    · rw [enc_lt hn]; simp
    · rw [enc_ge hn]
      have := ih (n / 128) (by rw [Nat.div_lt_iff_lt_mul (by omega)]; rw [Nat.pow_succ] at h; exact h)
      simp; omega
theorem enc_10 {n : Nat} (h : n < 18446744073709551616) : (enc n).length ≤ 10 := enc_le 9 n (Nat.lt_of_lt_of_le h (by decide))
theorem orB (m : Nat) : bits BinOp.or IntKind.u8 ((m : Int) % 256) 128 = ((m % 128 + 128 : Nat) : Int) := by
  have h : ∀ k : Fin 256, bits BinOp.or IntKind.u8 ((k.val : Int)) 128 = ((k.val % 128 + 128 : Nat) : Int) := by decide +kernel
  have := h ⟨m % 256, Nat.mod_lt _ (by omega)⟩
  simp only at this
  rw [show ((m : Int) % 256) = ((m % 256 : Nat) : Int) by omega, this]
  congr 1; omega
theorem u8c (k : Nat) (h : k < 256) : Value.int IntKind.u8 ((UInt8.ofNat k).toNat : Int) = Value.int IntKind.u8 (k : Int) := by
  rw [UInt8.toNat_ofNat']
  congr 2; omega
/-- the cells of an array of ten that begins with bytes -/
def ten (p : List UInt8) : Array Value := (cellsB p ++ List.replicate (10 - p.length) (Value.int IntKind.u8 0)).toArray
theorem ten_size {p : List UInt8} (h : p.length ≤ 10) : (ten p).size = 10 := by simp [ten, cellsB_len]; omega
theorem ten_set {p : List UInt8} (h : p.length < 10) (k : Nat) (hk : k < 256) : (ten p).setIfInBounds p.length (.int .u8 (k : Int)) = ten (p ++ [UInt8.ofNat k]) := by
  apply Array.ext'
  simp only [ten, Array.toList_setIfInBounds, List.length_append, List.length_singleton]
  rw [List.set_append_right _ _ (by rw [cellsB_len]; omega), cellsB_len, Nat.sub_self]
  obtain ⟨j, hj⟩ : ∃ j, 10 - p.length = j + 1 := ⟨10 - p.length - 1, by omega⟩
  rw [hj, show 10 - (p.length + 1) = j by omega, List.replicate_succ, List.set_cons_zero, cellsB_app]
  simp only [List.append_assoc]
  congr 1
  simp [cellsB]
  omega
theorem ten_lit {p : List UInt8} (h : p.length ≤ 10) : ∃ x0 x1 x2 x3 x4 x5 x6 x7 x8 x9 : Int, ten p = #[.int .u8 x0, .int .u8 x1, .int .u8 x2, .int .u8 x3, .int .u8 x4, .int .u8 x5, .int .u8 x6, .int .u8 x7, .int .u8 x8, .int .u8 x9] := by
  have hs := ten_size h
  have hall : ∀ v ∈ (ten p).toList, ∃ x : Int, v = .int .u8 x := by
    intro v hv
    simp only [ten, List.mem_append, cellsB, List.mem_map, List.mem_replicate] at hv
    rcases hv with ⟨b, _, rfl⟩ | ⟨_, rfl⟩
    · exact ⟨_, rfl⟩
    · exact ⟨_, rfl⟩
  obtain ⟨l, hl⟩ : ∃ l, (ten p).toList = l := ⟨_, rfl⟩
  have e : ten p = l.toArray := by rw [← hl]
  rw [hl] at hall
  have hl10 : l.length = 10 := by rw [← hl]; simpa using hs
  match l, hl10 with
  | [a0, a1, a2, a3, a4, a5, a6, a7, a8, a9], _ =>
    obtain ⟨x0, rfl⟩ := hall a0 (by simp)
    obtain ⟨x1, rfl⟩ := hall a1 (by simp)
    obtain ⟨x2, rfl⟩ := hall a2 (by simp)
    obtain ⟨x3, rfl⟩ := hall a3 (by simp)
    obtain ⟨x4, rfl⟩ := hall a4 (by simp)
    obtain ⟨x5, rfl⟩ := hall a5 (by simp)
    obtain ⟨x6, rfl⟩ := hall a6 (by simp)
    obtain ⟨x7, rfl⟩ := hall a7 (by simp)
    obtain ⟨x8, rfl⟩ := hall a8 (by simp)
    obtain ⟨x9, rfl⟩ := hall a9 (by simp)
    exact ⟨x0, x1, x2, x3, x4, x5, x6, x7, x8, x9, e⟩

theorem form_le {n m : Nat} {p : List UInt8} (hp : m * 128 ^ p.length ≤ n) : m ≤ n :=
  Nat.le_trans (Nat.le_mul_of_pos_right m (Nat.one_le_pow _ _ (by omega))) hp
theorem form_more {n m : Nat} {p : List UInt8} (h : n < 18446744073709551616) (hp : m * 128 ^ p.length ≤ n) (hm : 127 < m) : p.length < 9 := by
  rcases Nat.lt_or_ge p.length 9 with h | h
  · exact h
  · have h1 := Nat.pow_le_pow_right (show 0 < 128 by omega) h
    have h2 : 128 * 128 ^ p.length ≤ m * 128 ^ p.length := Nat.mul_le_mul_right _ (by omega)
    have e10 : (128 : Nat) ^ 9 = 9223372036854775808 := by decide
    omega
set_option maxRecDepth 20000 in
set_option maxHeartbeats 1000000 in
theorem form115 (w : World) (n : Nat) (hn : n < 18446744073709551616) : Calls Try.prog 115 #[.int .u64 (n : Int)] w fun e w' => e = .returned (.tuple #[.agg (ten (enc n)), .int .i64 ((enc n).length : Int)]) ∧ B w w' := by
  have HN := Lib.hid hn
  have hz : ten [] = #[.int .u8 0, .int .u8 0, .int .u8 0, .int .u8 0, .int .u8 0, .int .u8 0, .int .u8 0, .int .u8 0, .int .u8 0, .int .u8 0] := rfl
  have k1 : Blk ((w.alloc (.cells (ten []) 141)).alloc (.cells (ten []) 141)) w.heap.size 141 (ten []) := (Blk.new w _ _).alloc _
  have k2 : Blk ((w.alloc (.cells (ten []) 141)).alloc (.cells (ten []) 141)) (w.heap.size + 1) 141 (ten []) := by simpa using Blk.new (w.alloc (.cells (ten []) 141)) 141 (ten [])
  have k3 : B w ((w.alloc (.cells (ten []) 141)).alloc (.cells (ten []) 141)) := (B.alloc' _ _).trans (B.alloc' _ _)
  rw [hz] at k1 k2 k3
  clear hz hn
  go_enter Try.func115, Try.ntmps115
  go_wp2_with fail
  rw [← show ten [] = #[Value.int IntKind.u8 0, .int .u8 0, .int .u8 0, .int .u8 0, .int .u8 0, .int .u8 0, .int .u8 0, .int .u8 0, .int .u8 0, .int .u8 0] from rfl] at k1 k2 k3
  go_loopw [0, 5] (fun x k wr => ∃ (m q : Nat) (p : List UInt8), x = .int .u64 (m : Int) ∧ k = .int .i64 (q : Int) ∧ Hid (p.length = q) ∧ Hid (enc n = p ++ enc m) ∧ q < 10 ∧ Hid (m * 128 ^ q ≤ n) ∧ Hid (Blk wr w.heap.size 141 (ten [])) ∧ Hid (Blk wr (w.heap.size + 1) 141 (ten p)) ∧ Hid (B w wr)) (fun x _ _ => (intOf x).toNat)
  case atStart => exact ⟨n, 0, [], rfl, rfl, rfl, rfl, by omega, by show n * 128 ^ 0 ≤ n; omega, k1, k2, k3⟩
  case round =>
    obtain ⟨m, q, p, rfl, rfl, HL, HE, hq, HP, H1, H2, H3⟩ := hrel
    clear k1 k2 k3
    have hmn := Lib.hid (form_le (p := p) (by rw [HL.out]; exact HP.out))
    have hsz := Lib.hid (ten_size (p := p) (by rw [HL.out]; omega))
    have c3 := H2.out.frozen q
    obtain ⟨cv, c2⟩ : ∃ cv, wr.cell? ⟨w.heap.size + 1, q, none⟩ = some cv := by
      rw [H2.out.cell]
      exact ⟨(ten p)[q]'(by rw [hsz.out]; omega), Array.getElem?_eq_getElem _⟩
    have hqi : (q : Int) < 10 := by omega
    by_cases hm : 127 < m
    · have hpl := Lib.hid (form_more (p := p) HN.out (by rw [HL.out]; exact HP.out) hm)
      go_wp2_with fail
      go_roundw
      case rel =>
        have hq9 : q < 9 := by have := hpl.out; have := HL.out; omega
        refine ⟨m / 128, q + 1, p ++ [UInt8.ofNat (m % 128 + 128)], by go_num, by go_num, ?_, ?_, by omega, ?_, H1.out.far (by simp) _, ?_, H3.out.setCell (by simp) _⟩
        · show (p ++ [_]).length = q + 1
          rw [List.length_append, HL.out]; rfl
        · show enc n = _
          rw [HE.out, enc_ge (by omega), List.append_assoc]; rfl
        · show m / 128 * 128 ^ (q + 1) ≤ n
          rw [Nat.pow_succ, Nat.mul_comm (128 ^ q) 128, ← Nat.mul_assoc]
          exact Nat.le_trans (Nat.mul_le_mul_right _ (Nat.div_mul_le_self m 128)) HP.out
        · show Blk _ _ _ _
          rw [orB]
          have := H2.out.set_ q (.int .u8 ((m % 128 + 128 : Nat) : Int))
          have e := ten_set (p := p) (by rw [HL.out]; omega) (m % 128 + 128) (by omega)
          rw [HL.out] at e
          rwa [e] at this
      case measure => simp [intOf]; omega
    · have hpt := ten_set (p := p) (by rw [HL.out]; omega) m (by omega)
      rw [HL.out] at hpt
      obtain ⟨x0, x1, x2, x3, x4, x5, x6, x7, x8, x9, hx⟩ := ten_lit (p := p ++ [UInt8.ofNat m]) (by simp; rw [HL.out]; omega)
      have HX := Lib.hid hx
      have HEN := Lib.hid (show enc n = p ++ [UInt8.ofNat m] by rw [HE.out, enc_lt (by omega)])
      have HT := Lib.hid (show Blk (wr.setCell ⟨w.heap.size + 1, q, none⟩ (.int .u8 (m : Int))) (w.heap.size + 1) 141 #[.int .u8 x0, .int .u8 x1, .int .u8 x2, .int .u8 x3, .int .u8 x4, .int .u8 x5, .int .u8 x6, .int .u8 x7, .int .u8 x8, .int .u8 x9] from by
        have := H2.out.set_ q (.int .u8 (m : Int)); rwa [hpt, hx] at this)
      have HZ := Lib.hid (show Blk (wr.setCell ⟨w.heap.size + 1, q, none⟩ (.int .u8 (m : Int))) w.heap.size 141 #[.int .u8 0, .int .u8 0, .int .u8 0, .int .u8 0, .int .u8 0, .int .u8 0, .int .u8 0, .int .u8 0, .int .u8 0, .int .u8 0] from H1.out.far (by simp) _)
      have HB := Lib.hid (show B w (wr.setCell ⟨w.heap.size + 1, q, none⟩ (.int .u8 (m : Int))) from H3.out.setCell (by simp) _)
      have hm256 : (m : Int) % 256 = m := by omega
      clear hpt hx
      go_wp2_with (refine wpList_load_row rfl 141 (.tmp 4) rfl (w.heap.size + 1) rfl 141 #[.int .u8 x0, .int .u8 x1, .int .u8 x2, .int .u8 x3, .int .u8 x4, .int .u8 x5, .int .u8 x6, .int .u8 x7, .int .u8 x8, .int .u8 x9] (0, 0) _ HT.out Try.underlying141 rfl (by kernel_rfl) ?_; have cz := fun i => HZ.out.cell i; have fz := fun i => HZ.out.frozen i; have HS := Lib.hid HB.out; generalize wr.setCell ⟨w.heap.size + 1, q, none⟩ (.int .u8 (m : Int)) = wz at *)
      refine bodyPost_ret (v := .tuple #[.agg #[.int .u8 x0, .int .u8 x1, .int .u8 x2, .int .u8 x3, .int .u8 x4, .int .u8 x5, .int .u8 x6, .int .u8 x7, .int .u8 x8, .int .u8 x9], .int .i64 ((q : Int) + 1)]) (by simp [results, Try.results115, go_sem, cz]) rfl ⟨?_, ?_⟩
      · rw [← HX.out, ← HEN.out]
        have e : ((q : Int) + 1) = ((enc n).length : Int) := by rw [HEN.out, List.length_append, HL.out]; simp
        rw [e]
      · repeat (refine Below.setCell ?_ (by simp) _)
        exact HB.out
end Go.Proofs.Ythgpkbhilkdckaa
