/- The law's 'live' of chapter 1: it returns true. Fresh bytes over St. -/
import Derived.Test.YthgpkbhilkdckaaCm
import Derived.Test.YthgpkbhilkdckaaBu
namespace Go.Proofs.Ythgpkbhilkdckaa
open Go.RowKit
set_option linter.unusedVariables false

section
variable {W w : World} {L : List Asn} {v : Value} {bs : List UInt8}
theorem St.fresh {P : Program} {f : FuncId} {args : Array Value} (h : St W w L) (hc : Calls P f args w (Fresh w bs)) : Calls P f args w fun e w' => ∃ v, e = .returned v ∧ St W w' (aBy v bs :: L) :=
  hc.mono fun e w' ⟨v, he, hr, hb⟩ => ⟨v, he, h.addRow hb hr⟩
theorem St.byBs (h : St W w (aBy v bs :: L)) (hl : bs.length ≤ big) : Bs w v bs := h.rowBs rfl hl
theorem St.bySlice (h : St W w (aBy v bs :: L)) : ∃ A c, v = .slice A bs.length c := h.rowSlice
/-- bytes written out -/
theorem Bs.lit (w : World) (cs : Array Value) (bs : List UInt8) (n : Nat) (h : cs = (cellsB bs).toArray) (hn : n = bs.length) (hl : bs.length ≤ big) : Bs (w.alloc (.cells cs 5)) (.slice (some ⟨w.heap.size, 0, none⟩) n n) bs := by
  subst h hn
  refine ⟨⟨_, _, rfl, fun e => (by cases e), Nat.le_refl _, by unfold big at hl; unfold maxLen; omega, fun ad had => ?_⟩, hl⟩
  cases had
  refine ⟨fun _ => by simp, fun j u hu => ?_⟩
  have ea : (⟨w.heap.size, 0, none⟩ : Addr).add j = ⟨w.heap.size, j, none⟩ := by unfold Addr.add; split <;> simp_all
  rw [ea, (Blk.new w 5 _).cell]
  simpa using hu
end
theorem enc300 : enc 300 = [172, 2] := by rw [enc_ge (by decide), enc_lt (by decide)]; rfl
theorem enc2 : enc 2 = [2] := by rw [enc_lt (by decide)]; rfl
theorem live69a : putB ([] ++ enc 300) [7, 8] = [172, 2, 2, 7, 8] := by
  unfold putB
  rw [enc300, show ([7, 8] : List UInt8).length = 2 from rfl, enc2]; rfl
theorem live69b : numS [172, 2, 2, 7, 8] 0 1000 = (300, [2, 7, 8], 0) := by decide
theorem live69c : bytesS [2, 7, 8] 0 9 = ([7, 8], [], 0) := by decide
set_option maxRecDepth 20000 in
set_option maxHeartbeats 2000000 in
theorem live69 {W w : World} {L : List Asn} (h : St W w L) : Calls Try.prog 69 #[] w fun e w' => e = .returned (.bool true) ∧ St W w' L := by
  have H := Lib.hid h
  have HP := Lib.hid (show Calls Try.prog 70 #[.slice none 0 0, .int .u64 300] w _ from h.fresh (putNum70 (Bs.nil w) 300 (by decide) (by unfold big; decide)))
  have q1 : (([172, 2, 2, 7, 8] : List UInt8) == [172, 2, 2, 7, 8]) = true := by decide
  have q2 : (([7, 8] : List UInt8) == [7, 8]) = true := by decide
  have q3 : doneE [] 0 = 0 := by decide
  clear h
  go_enter Try.func69, Try.ntmps69
  go_wp2_with (first
    | (go_at_call 70; (with_reducible refine HP.out.mono ?_); rintro e w1 ⟨v1, rfl, hS⟩; have H1 := Lib.hid hS; clear hS)
    | (go_at_call 72; (with_reducible refine ((H1.out.later (B.alloc' w1 (.cells #[.int .u8 7, .int .u8 8] 5))).fresh (putBytes72 ((H1.out.byBs (by rw [enc300]; unfold big; decide)).later (B.alloc' w1 (.cells #[.int .u8 7, .int .u8 8] 5))) (Bs.lit w1 #[.int .u8 7, .int .u8 8] [7, 8] 2 rfl rfl (by unfold big; decide)) (by rw [enc300]; unfold big; decide))).mono ?_); rintro e w2 ⟨v2, rfl, hS⟩; rw [live69a] at hS; have H2 := Lib.hid hS; clear hS)
    | (go_at_call 77; (with_reducible refine (St.read77 H2.out (H2.out.byBs (by unfold big; decide))).mono ?_); rintro e w3 ⟨p, rfl, hS⟩; have H3 := Lib.hid hS; have H4 := Lib.hid (hS.later (B.alloc' w3 (.cells #[.int .u8 172, .int .u8 2, .int .u8 2, .int .u8 7, .int .u8 8] 5))); clear hS)
    | (go_at_call 68; (with_reducible refine (equal68 (H4.out.drop.byBs (by unfold big; decide)) (Bs.lit w3 #[.int .u8 172, .int .u8 2, .int .u8 2, .int .u8 7, .int .u8 8] [172, 2, 2, 7, 8] 5 rfl rfl (by unfold big; decide))).mono ?_); rintro e w4 ⟨rfl, rfl⟩; simp only [q1])
    | (go_at_call 85; (with_reducible refine (show Calls Try.prog 85 #[.pointer (some ⟨p, 0, none⟩), .int .u64 1000] _ _ from St.num85 H4.out 1000).mono ?_); rintro e w4 ⟨rfl, hS⟩; rw [live69b] at hS ⊢; have H5 := Lib.hid hS; clear hS)
    | (go_at_call 87; (with_reducible refine (St.bytes87 H5.out 9 (by decide)).mono ?_); rintro e w5 ⟨v5, rfl, hS⟩; rw [live69c] at hS; have H6 := Lib.hid (hS.later (B.alloc' w5 (.cells #[.int .u8 7, .int .u8 8] 5))); clear hS)
    | (go_at_call 68; (with_reducible refine (equal68 (H6.out.byBs (by unfold big; decide)) (Bs.lit w5 #[.int .u8 7, .int .u8 8] [7, 8] 2 rfl rfl (by unfold big; decide))).mono ?_); rintro e w4 ⟨rfl, rfl⟩; simp only [q2])
    | (go_at_call 82; (with_reducible refine (St.done82 H6.out.drop).mono ?_); rintro e w4 ⟨rfl, rfl⟩; simp only [q3]))
  go_ret
  exact ⟨rfl, H6.out.drop.drop.drop.drop⟩
end Go.Proofs.Ythgpkbhilkdckaa
