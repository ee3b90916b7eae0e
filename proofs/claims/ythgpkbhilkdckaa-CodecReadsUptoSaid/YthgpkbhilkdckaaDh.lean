/- CodecReads: the walk. -/
import Derived.Test.YthgpkbhilkdckaaDg
namespace Go.Proofs.Ythgpkbhilkdckaa
open Go.RowKit
set_option linter.unusedVariables false

theorem listGo_len (each : Int) : ∀ (n : Nat) (bs : List UInt8) (e : Int) (acc : List (List UInt8)), (listGo each n bs e acc).2.1.length ≤ bs.length
  | 0, bs, e, acc => Nat.le_refl _
  | n + 1, bs, e, acc => by
    unfold listGo
    have h := bytesS_all bs e each
    simp only
    split
    · show (bytesS bs e each).2.1.length ≤ _; omega
    · exact Nat.le_trans (listGo_len each n _ _ _) (by omega)
theorem askS_len (bs : List UInt8) (e d : Int) (m : Nat) (n k c : Int) : (askS bs e d m n k c).1.length ≤ bs.length := by
  unfold askS
  split
  · exact numS_len _ _ _
  · split
    · have := takeS_len bs e n; omega
    · split
      · have := bytesS_all bs e n; omega
      · split
        · exact Nat.le_trans (listGo_len _ _ _ _ _) (numS_len _ _ _)
        · unfold failB; split <;> simp

set_option maxRecDepth 20000 in
set_option maxHeartbeats 4000000 in
theorem codecReads_walk {W : World} {u v : Value} {bs : List UInt8} {L : List AskV} (hb : Bs W u bs) (hL : As W v L) (h1 : bs.length ≤ 1048576) :
    Calls Try.prog 11 #[u, v] W fun e w' => e = .returned (.bool true) ∧ B W w' := by
  obtain ⟨A, c, rfl, hm1, hr⟩ := hL
  obtain ⟨Ab, cb, rfl⟩ := hb.rd.slice
  have HB := Lib.hid hb
  have HR := Lib.hid hr
  have H1 := Lib.hid h1
  have hs : (L.length : Int) ≤ 9223372036854775807 := by unfold maxLen at hm1; omega
  clear hr hb h1 hm1
  go_enter Try.func11, Try.ntmps11
  go_wp2_with (first
    | (go_at_call 69; (with_reducible refine (live69 (St.nil W)).mono ?_); rintro e w1 ⟨rfl, hS⟩; have HS1 := Lib.hid hS; clear hS)
    | (go_at_call 77; (with_reducible refine (St.read77 HS1.out (HB.out.later HS1.out.b)).mono ?_); rintro e w2 ⟨p, rfl, hS⟩; have HS2 := Lib.hid hS; clear hS)
    | (go_at_call 78; (with_reducible refine (St.read78 HS2.out HB.out).mono ?_); rintro e w3 ⟨p2, rfl, hS⟩; have HS3 := Lib.hid hS.swap; clear hS))
  go_loopw [17] (fun i wr => ∃ (q : Nat) (b' : List UInt8) (e' : Int), q ≤ L.length ∧ i = .int .i64 (q : Int) ∧ Hid (b'.length ≤ bs.length) ∧ Hid (St W wr [aRd p b' e', aRr W p2 b' e'])) (fun i _ => L.length - (intOf i).toNat)
  case atStart => exact ⟨0, bs, 0, Nat.zero_le _, rfl, Nat.le_refl _, HS3.out⟩
  case round =>
    obtain ⟨q, b', e', hq, rfl, HLE, HS⟩ := hrel
    by_cases hlt : q < L.length
    · obtain ⟨b, off, rfl, hbl, hc⟩ := HR.out (by omega)
      obtain ⟨hok, hcells⟩ := hc q _ (List.getElem?_eq_getElem hlt)
      have hqi : (q : Int) < L.length := by omega
      have HASK := Lib.hid (askS_len b' e' L[q].d L[q].m L[q].n L[q].k L[q].c)
      have HST := Lib.hid (fun w' {X : List Asn} (h : St W w' (aRd p b' e' :: aRr W p2 b' e' :: X)) => h.asks79 L[q].d L[q].m L[q].n L[q].k L[q].c hok.1 hok.2 (by have := HLE.out; have := H1.out; omega))
      generalize L[q] = x at *
      obtain ⟨d, m, n, k, cc⟩ := x
      simp only at HASK HST
      have k0 : wr.cell? ⟨b, off + q * 5 + 0, none⟩ = some (.int .i64 d) := HS.out.b.cell (hcells 0 _ rfl)
      have k1 : wr.cell? ⟨b, off + q * 5 + 1, none⟩ = some (.int .u64 (m : Int)) := HS.out.b.cell (hcells 1 _ rfl)
      have k2 : wr.cell? ⟨b, off + q * 5 + 2, none⟩ = some (.int .i64 n) := HS.out.b.cell (hcells 2 _ rfl)
      have k3 : wr.cell? ⟨b, off + q * 5 + 3, none⟩ = some (.int .i64 k) := HS.out.b.cell (hcells 3 _ rfl)
      have k4 : wr.cell? ⟨b, off + q * 5 + 4, none⟩ = some (.int .i64 cc) := HS.out.b.cell (hcells 4 _ rfl)
      simp only [Nat.add_zero] at k0
      have HS0 := Lib.hid ((aBlk.new HS.out 87 #[.int .i64 d, .int .u64 (m : Int), .int .i64 n, .int .i64 k, .int .i64 cc]).later (Below.refl _ _).drew)
      clear hc hcells hok
      go_wp2_with fail
      clear k0 k1 k2 k3 k4
      generalize wr.heap.size = g at *
      generalize wr.alloc (.cells #[.int .i64 d, .int .u64 (m : Int), .int .i64 n, .int .i64 k, .int .i64 cc] 87) = w0 at *
      have k0 : w0.cell? ⟨g, 0, none⟩ = some (.int .i64 d) := HS0.out.cellOf (g := g) (t := 87) (cs := #[.int .i64 d, .int .u64 (m : Int), .int .i64 n, .int .i64 k, .int .i64 cc]) (by simp) 0
      have k1 : w0.cell? ⟨g, 1, none⟩ = some (.int .u64 (m : Int)) := HS0.out.cellOf (g := g) (t := 87) (cs := #[.int .i64 d, .int .u64 (m : Int), .int .i64 n, .int .i64 k, .int .i64 cc]) (by simp) 1
      have k2 : w0.cell? ⟨g, 2, none⟩ = some (.int .i64 n) := HS0.out.cellOf (g := g) (t := 87) (cs := #[.int .i64 d, .int .u64 (m : Int), .int .i64 n, .int .i64 k, .int .i64 cc]) (by simp) 2
      have k3 : w0.cell? ⟨g, 3, none⟩ = some (.int .i64 k) := HS0.out.cellOf (g := g) (t := 87) (cs := #[.int .i64 d, .int .u64 (m : Int), .int .i64 n, .int .i64 k, .int .i64 cc]) (by simp) 3
      have k4 : w0.cell? ⟨g, 4, none⟩ = some (.int .i64 cc) := HS0.out.cellOf (g := g) (t := 87) (cs := #[.int .i64 d, .int .u64 (m : Int), .int .i64 n, .int .i64 k, .int .i64 cc]) (by simp) 4
      go_region_with (first
        | (go_at_call 79; (with_reducible refine (HST.out _ HS0.out.rot3.rot3).mono ?_); rintro e w1 ⟨rfl, hS⟩; have HS1 := Lib.hid hS; obtain ⟨A7, c7, b7, e7, _, _, _⟩ := hS.swap.rr; clear hS k0 k1 k2 k3 k4)
        | (go_at_call 80; (with_reducible refine (St.err80 HS1.out).mono ?_); rintro e w2 ⟨rfl, rfl⟩)
        | (go_at_call 81; (with_reducible refine (St.left81 HS1.out).mono ?_); rintro e w2 ⟨rfl, rfl⟩)
        | (go_at_call 82; (with_reducible refine (St.done82 HS1.out).mono ?_); rintro e w2 ⟨rfl, rfl⟩)
        | (go_at_call 83; (with_reducible refine (St.done83 HS1.out.swap).mono ?_); rintro e w2 ⟨rfl, rfl⟩))
      all_goals
        go_wp2_with fail
        go_roundw
        case rel => exact ⟨q + 1, _, _, by omega, by go_num, Nat.le_trans HASK.out HLE.out, HS1.out.rot3.drop⟩
        case measure => simp [intOf]; omega
    · have hqi : ¬ (q : Int) < L.length := by omega
      go_wp2_with (first
        | (go_at_call 82; (with_reducible refine (St.done82 HS.out).mono ?_); rintro e w2 ⟨rfl, rfl⟩)
        | (go_at_call 83; (with_reducible refine (St.done83 HS.out.swap).mono ?_); rintro e w2 ⟨rfl, rfl⟩))
      go_ret
      exact ⟨by simp, HS.out.b⟩
end Go.Proofs.Ythgpkbhilkdckaa
