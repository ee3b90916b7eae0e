/- What codec and its reference put: byte strings, lists; how long a number's form is. -/
import Derived.Test.YthgpkbhilkdckaaCb
namespace Go.Proofs.Ythgpkbhilkdckaa
open Go.RowKit
set_option linter.unusedVariables false

theorem Fresh.mk {w w' : World} {bs : List UInt8} {v : Value} {n : Nat} {xs : List Value} (h : w'.ownsRow w.heap.size 5 1 v n xs) (hn : n = bs.length) (hx : xs = cellsB bs) (hb : B w w') : Fresh w bs (.returned v) w' := by
  subst hn hx; exact ⟨v, rfl, h, hb⟩
/-- append onto a row of the call's own: the bytes behind it -/
theorem Fresh.app {w w1 w2 : World} {z xs : List UInt8} {A1 A2 : Option Addr} {c1 c2 : Nat} (r1 : w1.ownsRow w.heap.size 5 1 (.slice A1 z.length c1) z.length (cellsB z)) (hb : B w w1)
    (r2 : w2.ownsRow w.heap.size 5 1 (.slice A2 (z.length + xs.length) c2) (z.length + xs.length) (cellsB z ++ cellsB xs)) (x2 : w1.grownBy w2 (Value.slice A1 z.length c1).ownBlock) : Fresh w (z ++ xs) (.returned (.slice A2 (z.length + xs.length) c2)) w2 :=
  Fresh.mk r2 (by simp) (by rw [cellsB_app]) (B.grown hb x2 (fun k hk => row_ge r1 hk))

set_option maxHeartbeats 1000000 in
theorem numLen76 (w : World) (n : Nat) (hn : n < 18446744073709551616) : Calls Try.prog 76 #[.int .u64 (n : Int)] w fun e w' => e = .returned (.int .i64 ((enc n).length : Int)) ∧ B w w' := by
  have HF := Lib.hid (form115 w n hn)
  obtain ⟨x0, x1, x2, x3, x4, x5, x6, x7, x8, x9, hx⟩ := ten_lit (p := enc n) (enc_10 hn)
  have HX := Lib.hid hx
  clear hn hx
  go_enter Try.func76, Try.ntmps76
  go_wp2_with (go_at_call 115; refine HF.out.mono ?_; rintro e w1 ⟨rfl, hb1⟩; rw [HX.out])
  go_ret
  exact ⟨rfl, hb1.trans (B.alloc' _ _)⟩

theorem Rd.byte (w : World) (b : UInt8) (y : Int) (h : (b.toNat : Int) = y) : Rd (w.alloc (.cells #[.int .u8 y] 5)) (.slice (some ⟨w.heap.size, 0, none⟩) 1 1) 1 1 (cellsB [b]) := by
  subst h
  exact Rd.lit w #[.int .u8 (b.toNat : Int)] 5 1 rfl
theorem u8i (k : Nat) (h : k < 256) : ((UInt8.ofNat k).toNat : Int) = (k : Int) := by rw [UInt8.toNat_ofNat']; congr 1; omega
theorem u64_id {x : Int} (h : 0 ≤ x ∧ x < 18446744073709551616) : IntKind.u64.wrap x = x := by
  simp [IntKind.wrap, IntKind.signed, IntKind.bits]; omega
/-- PutBytes, whichever PutNum stands in it -/
theorem putNum71 {w : World} {v : Value} {bs : List UInt8} (h : Bs w v bs) (n : Nat) (hn : n < 18446744073709551616) (hl : bs.length + 10 ≤ big) : Calls Try.prog 71 #[v, .int .u64 (n : Int)] w (Fresh w (bs ++ enc n)) := by
  have H := Lib.hid h
  have HE := Lib.hid (enc_10 hn)
  have HL := Lib.hid hl
  have HN := Lib.hid hn
  have g1 : 0 + bs.length ≤ maxLen := by unfold big at hl; unfold maxLen; omega
  have g2 : (0 + bs.length) * 1 ≤ 140737488355328 := by unfold big at hl; omega
  have o1 := cellsB_one bs
  clear h hn hl
  go_enter Try.func71, Try.ntmps71
  go_wp2_with (at_builtin; refine wpList_append_Rd (v := .slice none 0 0) (base := w.heap.size) rfl (.tmp 6) (.tmp 7) 47 rfl Try.underlying47 info5 rfl Nat.zero_lt_one rfl rfl (ownNil _ _ 5 1) H.out.rd o1 g1 g2 (Nat.le_refl _) ?_; intro A1 c1 w1 r1 x1 y1; simp only [Nat.zero_add, List.nil_append] at r1 y1; have hB1 : B w w1 := B.grown (Below.refl _ _) x1 (fun k hk => by simp [Value.ownBlock] at hk))
  have R1 := Lib.hid r1
  have HB1 := Lib.hid hB1
  clear r1 x1 y1 hB1
  go_loopw [1, 5] (fun x v wr => ∃ (m k : Nat) (z : List UInt8) (A : Option Addr) (c : Nat), x = .int .u64 (m : Int) ∧ v = .slice A k c ∧ Hid (z.length = k) ∧ Hid (m ≤ n) ∧ Hid (bs ++ enc n = z ++ enc m) ∧ Hid (wr.ownsRow w.heap.size 5 1 (.slice A k c) k (cellsB z)) ∧ Hid (B w wr)) (fun x _ _ => (intOf x).toNat)
  case atStart => exact ⟨n, bs.length, bs, A1, c1, rfl, by simp, rfl, Nat.le_refl _, rfl, R1.out, HB1.out⟩
  case round =>
    obtain ⟨m, k, z, A, c, rfl, rfl, HZ, HM, HE', HR, HB⟩ := hrel
    have hk : k + 1 ≤ bs.length + 10 := by
      have h1 := congrArg List.length HE'.out
      simp only [List.length_append] at h1
      have := enc_pos m; have := HE.out; have := HZ.out; omega
    have g3 : k + 1 ≤ maxLen := by have := HL.out; unfold big at this; unfold maxLen; omega
    have g4 : (k + 1) * 1 ≤ 140737488355328 := by have := HL.out; unfold big at this; omega
    have hbs := Lib.hid HB.out.size
    by_cases hm : 128 ≤ m
    · have hmi : (128 : Int) ≤ m := by omega
      have hw : IntKind.u64.wrap ((m : Int) / 128) = (m : Int) / 128 := u64_id (by have := HN.out; have := HM.out; omega)
      have o2 := cellsB_one [UInt8.ofNat (m % 128 + 128)]
      have hcl := Lib.hid (show ((UInt8.ofNat (m % 128 + 128)).toNat : Int) = (m : Int) % 128 + 128 by rw [u8i _ (by omega)]; omega)
      go_wp2_with (at_builtin; refine wpList_append_Rd rfl (.tmp 11) (.tmp 16) 47 rfl Try.underlying47 info5 rfl Nat.zero_lt_one rfl rfl (row_later HR.out (B.alloc' _ _)) (Rd.byte wr (UInt8.ofNat (m % 128 + 128)) _ hcl.out) o2 g3 g4 (Nat.le_trans hbs.out (B.alloc' _ _).size) ?_; intro A2 c2 w2 r2 x2 y2; have R2 := Lib.hid r2; have X2 := Lib.hid x2; clear r2 x2 y2)
      go_roundw
      case rel =>
        refine ⟨m / 128, k + 1, z ++ [UInt8.ofNat (m % 128 + 128)], A2, c2, by go_num, rfl, ?_, Nat.le_trans (Nat.div_le_self _ _) HM.out, ?_, ?_, ?_⟩
        · show (z ++ [_]).length = k + 1
          rw [List.length_append, HZ.out]; rfl
        · show bs ++ enc n = _
          rw [HE'.out, enc_ge (by omega), List.append_assoc]; rfl
        · show World.ownsRow _ _ _ _ _ _ _
          rw [cellsB_app]; exact R2.out
        · exact B.grown (HB.out.trans (B.alloc' _ _)) X2.out (fun g hg => row_ge HR.out hg)
      case measure => simp [intOf]; omega
    · have hmi : ¬ (128 : Int) ≤ m := by omega
      have hm256 : (m : Int) % 256 = m := by omega
      have o2 := cellsB_one [UInt8.ofNat m]
      have hcl := Lib.hid (show ((UInt8.ofNat m).toNat : Int) = (m : Int) by rw [u8i _ (by omega)])
      have hez := Lib.hid (show bs ++ enc n = z ++ [UInt8.ofNat m] by rw [HE'.out, enc_lt (by omega)])
      clear hm
      go_wp2_with (at_builtin; refine wpList_append_Rd rfl (.tmp 20) (.tmp 23) 47 rfl Try.underlying47 info5 rfl Nat.zero_lt_one rfl rfl (row_later HR.out (B.alloc' _ _)) (Rd.byte wr (UInt8.ofNat m) _ hcl.out) o2 g3 g4 (Nat.le_trans hbs.out (B.alloc' _ _).size) ?_; intro A2 c2 w2 r2 x2 y2; have R2 := Lib.hid r2; have X2 := Lib.hid x2; clear r2 x2 y2)
      go_ret
      exact Fresh.mk R2.out (by rw [hez.out, List.length_append, HZ.out]; rfl) (by rw [hez.out, cellsB_app]) (B.grown (HB.out.trans (B.alloc' _ _)) X2.out (fun g hg => row_ge HR.out hg))

def putB (bs xs : List UInt8) : List UInt8 := bs ++ enc xs.length ++ xs
def putS (L : List (List UInt8)) : List UInt8 := (L.map fun x => enc x.length ++ x).flatten
def putL (bs : List UInt8) (L : List (List UInt8)) : List UInt8 := bs ++ enc L.length ++ putS L

set_option maxHeartbeats 1000000 in
theorem putBytes72 {w : World} {v u : Value} {bs xs : List UInt8} (h : Bs w v bs) (k : Bs w u xs) (hl : (bs ++ xs).length + 10 ≤ big) : Calls Try.prog 72 #[v, u] w (Fresh w (putB bs xs)) := by
  have hxl : xs.length < 18446744073709551616 := by have := k.len; unfold big at this; omega
  have hl' : bs.length + 10 + xs.length ≤ big := by simp at hl; omega
  have HP := Lib.hid (putNum70 h xs.length hxl (by omega))
  have h10 := enc_10 hxl
  have HK := Lib.hid k
  obtain ⟨z, hz⟩ : ∃ z, z = bs ++ enc xs.length := ⟨_, rfl⟩
  have hzl : z.length ≤ bs.length + 10 := by rw [hz, List.length_append]; omega
  rw [← hz] at HP
  have g1 : z.length + xs.length ≤ maxLen := by unfold big at hl'; unfold maxLen; omega
  have g2 : (z.length + xs.length) * 1 ≤ 140737488355328 := by unfold big at hl'; omega
  have o1 := cellsB_one xs
  have HZ := Lib.hid (show putB bs xs = z ++ xs by rw [hz]; rfl)
  have hxi : (xs.length : Int) ≤ 140737488355328 := by have := k.len; unfold big at this; omega
  rw [HZ.out]
  obtain ⟨B0, cp, rfl⟩ := HK.out.rd.slice
  clear h k hl hl' h10 hz hzl hxl
  go_enter Try.func72, Try.ntmps72
  go_wp2_with (first
    | (go_at_call 70; (with_reducible refine HP.out.mono ?_); rintro e w1 ⟨v1, rfl, r1, hb1⟩; obtain ⟨A1, c1, rfl⟩ := own_slice r1; have hb1s := hb1.size)
    | (at_builtin; refine wpList_append_Rd rfl (.tmp 9) (.tmp 10) 47 rfl Try.underlying47 info5 rfl Nat.zero_lt_one rfl rfl r1 (HK.out.later hb1).rd o1 g1 g2 hb1s ?_; intro A2 c2 w2 r2 x2 y2))
  go_ret
  exact Fresh.app r1 hb1 r2 x2

set_option maxHeartbeats 1000000 in
theorem putBytes73 {w : World} {v u : Value} {bs xs : List UInt8} (h : Bs w v bs) (k : Bs w u xs) (hl : (bs ++ xs).length + 10 ≤ big) : Calls Try.prog 73 #[v, u] w (Fresh w (putB bs xs)) := by
  have hxl : xs.length < 18446744073709551616 := by have := k.len; unfold big at this; omega
  have hl' : bs.length + 10 + xs.length ≤ big := by simp at hl; omega
  have HP := Lib.hid (putNum71 h xs.length hxl (by omega))
  have h10 := enc_10 hxl
  have HK := Lib.hid k
  obtain ⟨z, hz⟩ : ∃ z, z = bs ++ enc xs.length := ⟨_, rfl⟩
  have hzl : z.length ≤ bs.length + 10 := by rw [hz, List.length_append]; omega
  rw [← hz] at HP
  have g1 : z.length + xs.length ≤ maxLen := by unfold big at hl'; unfold maxLen; omega
  have g2 : (z.length + xs.length) * 1 ≤ 140737488355328 := by unfold big at hl'; omega
  have o1 := cellsB_one xs
  have HZ := Lib.hid (show putB bs xs = z ++ xs by rw [hz]; rfl)
  have hxi : (xs.length : Int) ≤ 140737488355328 := by have := k.len; unfold big at this; omega
  rw [HZ.out]
  obtain ⟨B0, cp, rfl⟩ := HK.out.rd.slice
  clear h k hl hl' h10 hz hzl hxl
  go_enter Try.func73, Try.ntmps73
  go_wp2_with (first
    | (go_at_call 71; (with_reducible refine HP.out.mono ?_); rintro e w1 ⟨v1, rfl, r1, hb1⟩; obtain ⟨A1, c1, rfl⟩ := own_slice r1; have hb1s := hb1.size)
    | (at_builtin; refine wpList_append_Rd rfl (.tmp 9) (.tmp 10) 47 rfl Try.underlying47 info5 rfl Nat.zero_lt_one rfl rfl r1 (HK.out.later hb1).rd o1 g1 g2 hb1s ?_; intro A2 c2 w2 r2 x2 y2))
  go_ret
  exact Fresh.app r1 hb1 r2 x2
end Go.Proofs.Ythgpkbhilkdckaa
