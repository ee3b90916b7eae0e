/- Lemmas and contracts, part 2. -/
import Derived.Test.YtnpjfjgnhadmjaaGreatDoorZb1
import Derived.Maps.OwnSet
import Derived.Maps.OwnOps
import Derived.Maps.Range
import Derived.Sort.KeysCollected
import Derived.Test.YtnpjfjgnhadmjaaGreatDoorRows
import Derived.StringKeys
import Derived.Maps.RangeWalk
import Derived.Deep.RegionHeld3
import Derived.Lib.AppendZerosOnto
/- The record with which bytes begin: plain; the walk of wal.Unframe. -/
namespace Go.Proofs.YtnpjfjgnhadmjaaGreatDoor
open Go.RowKit Go.Deep
set_option linter.unusedVariables false

/-- the record, and how many bytes its frame has -/
def unframeF (bs : List UInt8) : Option (List UInt8 × Nat) :=
  let r := bytesS bs 0 524288
  let t := takeS r.2.1 r.2.2 4
  if t.2.2 ≠ 0 then none else
    let n := bs.length - r.2.1.length
    if t.1 = le4 (sumF (bs.take n)) then some (r.1, n + 4) else none
theorem bs4 (w : World) (s : BitVec 32) : Bs (w.alloc (.cells #[.int .u8 ((s.toNat : Int) % 256), .int .u8 ((s.toNat : Int) / 256 % 256), .int .u8 ((s.toNat : Int) / 65536 % 256), .int .u8 ((s.toNat : Int) / 16777216)] 5)) (.slice (some ⟨w.heap.size, 0, none⟩) 4 4) (le4 s) :=
  Bs.lit w _ (le4 s) 4 (by rw [cells4]) rfl (by simp [le4, big])
theorem Bs.capLe {w : World} {A : Option Addr} {n c : Nat} {bs : List UInt8} (h : Bs w (.slice A n c) bs) : bs.length ≤ c := by
  obtain ⟨⟨A', cap, he, hn, hc, hm, hr⟩, hl⟩ := h
  injection he with e1 e2 e3
  subst e1 e2 e3
  exact hc
theorem Bs.pre {w : World} {A : Option Addr} {n c : Nat} {bs : List UInt8} (h : Bs w (.slice A n c) bs) (k : Nat) (hk : k ≤ bs.length) : Bs w (.slice A k c) (bs.take k) := by
  obtain ⟨⟨A', cap, he, hn, hc, hm, hr⟩, hl⟩ := h
  injection he with e1 e2 e3
  subst e1 e2 e3
  refine ⟨⟨_, _, by rw [List.length_take, Nat.min_eq_left hk], fun e => ?_, by rw [List.length_take]; omega, hm, fun ad had => ?_⟩, by rw [List.length_take]; omega⟩
  · obtain ⟨h7, rfl⟩ := hn e
    exact ⟨by simp [h7], rfl⟩
  · obtain ⟨h1, h2⟩ := hr ad had
    exact ⟨fun hne => h1 (fun e => hne (by rw [e]; simp)), fun j u hu => h2 j u (cellsB_take bs k j u hu)⟩
theorem takeS4 {b1 s b2 : List UInt8} {e1 : Int} (h : takeS b1 e1 4 = (s, b2, 0)) : e1 = 0 ∧ 4 ≤ b1.length ∧ s = b1.take 4 ∧ b2.length + 4 = b1.length := by
  unfold takeS at h
  split at h
  · rename_i he; simp at h; omega
  · rename_i he
    rw [if_neg (by omega)] at h
    split at h
    · simp at h
    · rename_i hl
      simp only [Prod.mk.injEq] at h
      obtain ⟨rfl, rfl, _⟩ := h
      refine ⟨by omega, by omega, rfl, ?_⟩
      rw [List.length_drop]; omega
theorem takeS_e {b1 : List UInt8} {e1 : Int} (h : e1 ≠ 0) : (takeS b1 e1 4).2.2 ≠ 0 := by
  unfold takeS; rw [if_pos h]; exact h
/-- what Unframe answers -/
def UnPost (w : World) (bs : List UInt8) (e : Ending) (w' : World) : Prop :=
  match unframeF bs with
  | none => e = .returned (.tuple #[.slice none 0 0, .int .i64 0, .bool false]) ∧ B w w'
  | some r => ∃ v, e = .returned (.tuple #[v, .int .i64 (r.2 : Int), .bool true]) ∧ St w w' [aBy v r.1]
section
variable {W w : World} {X : List Asn} {u : Value} {bs : List UInt8}
set_option maxRecDepth 20000 in
set_option maxHeartbeats 4000000 in
theorem unframe_c (hu : Bs w u bs) : Calls Tryz.prog 10 #[u] w (UnPost w bs) := by
  obtain ⟨A, c, rfl⟩ := hu.rd.slice
  have hul := hu.2
  have HB := Lib.hid hu
  have HR := Lib.hid ((St.nil w).read77 hu)
  obtain ⟨⟨x, b1, e1⟩, hr⟩ : ∃ r, bytesS bs 0 524288 = r := ⟨_, rfl⟩
  have HBY := Lib.hid (fun w' p (h : St w w' [aRd p bs 0]) => (show Calls Tryz.prog 43 #[.pointer (some ⟨p, 0, none⟩), .int .i64 524288] w' (TakePost w p [] (x, b1, e1)) from by rw [← hr]; exact h.bytes87 524288 (by decide)))
  obtain ⟨⟨s, b2, e2⟩, ht⟩ : ∃ t, takeS b1 e1 4 = t := ⟨_, rfl⟩
  have HTK := Lib.hid (fun w' p Y (h : St w w' (aRd p b1 e1 :: Y)) => (show Calls Tryz.prog 44 #[.pointer (some ⟨p, 0, none⟩), .int .i64 4] w' (TakePost w p Y (s, b2, e2)) from by rw [← ht]; exact h.take86 4 (by decide)))
  by_cases he : e2 = 0
  · subst he
    obtain ⟨rfl, h4, rfl, hb2⟩ := takeS4 ht
    have hbs := bytesS_read hr
    have hlen : b1.length ≤ bs.length := by rw [hbs, List.length_append]; omega
    have hun : unframeF bs = if b1.take 4 = le4 (sumF (bs.take (bs.length - b1.length))) then some (x, bs.length - b1.length + 4) else none := by
      unfold unframeF
      rw [hr]
      simp only
      rw [ht]
      simp
    obtain ⟨n, hn⟩ : ∃ n, bs.length - b1.length = n := ⟨_, rfl⟩
    rw [hn] at hun
    have hnL : n + 4 ≤ bs.length := by omega
    have HCUT := Lib.hid (hu.pre n (by omega))
    obtain ⟨z, hz⟩ : ∃ z, sumF (bs.take n) = z := ⟨_, rfl⟩
    have HZ := Lib.hid hz
    rw [hz] at hun
    have HUN := Lib.hid hun
    have HN2 := Lib.hid (show (bs.length : Int) - (b2.length : Int) = ((n + 4 : Nat) : Int) by omega)
    unfold big at hul
    obtain ⟨L, hL⟩ : ∃ L, bs.length = L := ⟨_, rfl⟩
    obtain ⟨R, hR⟩ : ∃ R, b2.length = R := ⟨_, rfl⟩
    have q1 : IntKind.i64.wrap ((L : Int) - (R : Int)) = (n : Int) + 4 := by rw [← hL, ← hR, HN2.out]; simp [IntKind.wrap, IntKind.signed, IntKind.bits]; omega
    have q2 : (n : Int) + 4 - 4 = (n : Int) := by omega
    have q5 : wrap64 (n : Int) = (n : Int) := by unfold wrap64; omega
    have HRL := Lib.hid hR
    have hcap := hu.capLe
    have hnL2 : (n : Int) ≤ c := by omega
    clear hcap
    rw [hL] at HR ⊢
    clear hu hul hr ht h4 hb2 hbs hlen hun hn hz hL hR
    by_cases hq : b1.take 4 = le4 z
    · have q4 : (b1.take 4 == le4 z) = true := by rw [hq]; simp
      have HQ := Lib.hid hq
      clear hq
      go_enter Tryz.func10, Tryz.ntmps10
      go_wp2_with (first
        | (go_at_call 42; (with_reducible refine HR.out.mono ?_); rintro e w1 ⟨p, rfl, hS⟩; have H1 := Lib.hid hS; clear hS)
        | (go_at_call 43; (with_reducible refine (HBY.out _ _ H1.out).mono ?_); rintro e w2 ⟨v6, rfl, hS⟩; have H2 := Lib.hid hS; clear hS)
        | (go_at_call 44; (with_reducible refine (HTK.out _ _ _ H2.out.swap).mono ?_); rintro e w3 ⟨v7, rfl, hS⟩; have H3 := Lib.hid hS; clear hS)
        | (go_at_call 45; (with_reducible refine (H3.out.swap.err80).mono ?_); rintro e w4 ⟨rfl, rfl⟩)
        | (go_at_call 46; (with_reducible refine (H3.out.swap.left81).mono ?_); rintro e w5 ⟨rfl, rfl⟩; rw [HRL.out])
        | (go_at_call 13; (with_reducible refine (sum_c (HCUT.out.later H3.out.b)).mono ?_); rintro e w6 ⟨rfl, rfl⟩; rw [HZ.out])
        | (go_at_call 15; (with_reducible refine (equal68 ((H3.out.later (B.alloc' _ _)).byBs (by simp; unfold big; omega)) (bs4 _ z)).mono ?_); rintro e w7 ⟨rfl, rfl⟩; rw [q4]))
      go_ret3
      unfold UnPost
      rw [HUN.out, if_pos HQ.out]
      exact ⟨_, rfl, (H3.out.later (B.alloc' _ _)).drop.drop⟩
    · have q4 : (b1.take 4 == le4 z) = false := by simpa using hq
      have HQ := Lib.hid hq
      clear hq
      go_enter Tryz.func10, Tryz.ntmps10
      go_wp2_with (first
        | (go_at_call 42; (with_reducible refine HR.out.mono ?_); rintro e w1 ⟨p, rfl, hS⟩; have H1 := Lib.hid hS; clear hS)
        | (go_at_call 43; (with_reducible refine (HBY.out _ _ H1.out).mono ?_); rintro e w2 ⟨v6, rfl, hS⟩; have H2 := Lib.hid hS; clear hS)
        | (go_at_call 44; (with_reducible refine (HTK.out _ _ _ H2.out.swap).mono ?_); rintro e w3 ⟨v7, rfl, hS⟩; have H3 := Lib.hid hS; clear hS)
        | (go_at_call 45; (with_reducible refine (H3.out.swap.err80).mono ?_); rintro e w4 ⟨rfl, rfl⟩)
        | (go_at_call 46; (with_reducible refine (H3.out.swap.left81).mono ?_); rintro e w5 ⟨rfl, rfl⟩; rw [HRL.out])
        | (go_at_call 13; (with_reducible refine (sum_c (HCUT.out.later H3.out.b)).mono ?_); rintro e w6 ⟨rfl, rfl⟩; rw [HZ.out])
        | (go_at_call 15; (with_reducible refine (equal68 ((H3.out.later (B.alloc' _ _)).byBs (by simp; unfold big; omega)) (bs4 _ z)).mono ?_); rintro e w7 ⟨rfl, rfl⟩; rw [q4]))
      go_ret3
      unfold UnPost
      rw [HUN.out, if_neg HQ.out]
      exact ⟨rfl, (H3.out.later (B.alloc' _ _)).b⟩
  · have hun : unframeF bs = none := by
      unfold unframeF
      rw [hr]
      simp only
      rw [ht]
      simp [he]
    have HUN := Lib.hid hun
    have q3 : (e2 != 0) = true := by simpa using he
    obtain ⟨L, hL⟩ : ∃ L, bs.length = L := ⟨_, rfl⟩
    rw [hL] at HR ⊢
    clear hu hul hr ht hun he hL
    go_enter Tryz.func10, Tryz.ntmps10
    go_wp2_with (first
      | (go_at_call 42; (with_reducible refine HR.out.mono ?_); rintro e w1 ⟨p, rfl, hS⟩; have H1 := Lib.hid hS; clear hS)
      | (go_at_call 43; (with_reducible refine (HBY.out _ _ H1.out).mono ?_); rintro e w2 ⟨v6, rfl, hS⟩; have H2 := Lib.hid hS; clear hS)
      | (go_at_call 44; (with_reducible refine (HTK.out _ _ _ H2.out.swap).mono ?_); rintro e w3 ⟨v7, rfl, hS⟩; have H3 := Lib.hid hS; clear hS)
      | (go_at_call 45; (with_reducible refine (H3.out.swap.err80).mono ?_); rintro e w4 ⟨rfl, rfl⟩))
    go_ret3
    unfold UnPost
    rw [HUN.out]
    exact ⟨rfl, H3.out.b⟩
end
end Go.Proofs.YtnpjfjgnhadmjaaGreatDoor

/- The reference's Unframe. -/
namespace Go.Proofs.YtnpjfjgnhadmjaaGreatDoor
open Go.RowKit Go.Deep
set_option linter.unusedVariables false

theorem or32 (x y : Nat) (k : Nat) (hx : x < 2 ^ k) (hy : 2 ^ k * y + x < 4294967296) : bits BinOp.or IntKind.u32 (x : Int) ((2 ^ k * y : Nat) : Int) = ((2 ^ k * y + x : Nat) : Int) := by
  have e0 : bits BinOp.or IntKind.u32 (x : Int) ((2 ^ k * y : Nat) : Int) = IntKind.u32.wrap (((BitVec.ofInt 32 (x : Int) ||| BitVec.ofInt 32 ((2 ^ k * y : Nat) : Int)).toNat : Nat) : Int) := rfl
  rw [e0, BitVec.ofInt_natCast, BitVec.ofInt_natCast, BitVec.toNat_or, BitVec.toNat_ofNat, BitVec.toNat_ofNat, Nat.mod_eq_of_lt (by omega), Nat.mod_eq_of_lt (by omega), Nat.or_comm, ← Nat.two_pow_add_eq_or_of_lt hx]
  generalize 2 ^ k * y + x = m at *
  simp [IntKind.wrap, IntKind.signed, IntKind.bits]
  omega
theorem wrapU (x : Nat) (h : x < 4294967296) : IntKind.u32.wrap (x : Int) = (x : Int) := by
  simp [IntKind.wrap, IntKind.signed, IntKind.bits]; omega
theorem le4_dec (s : List UInt8) (h : s.length = 4) (z : BitVec 32) : ∃ a b c d : UInt8, s = [a, b, c, d] ∧ (s = le4 z ↔ a.toNat + 256 * b.toNat + 65536 * c.toNat + 16777216 * d.toNat = z.toNat) := by
  match s, h with
  | [a, b, c, d], _ =>
    refine ⟨a, b, c, d, rfl, ?_⟩
    have ha : a.toNat < 256 := a.toNat_lt
    have hb : b.toNat < 256 := b.toNat_lt
    have hc : c.toNat < 256 := c.toNat_lt
    have hd : d.toNat < 256 := d.toNat_lt
    have hz := z.isLt
    have key : ∀ (x : UInt8) (n : Nat), n < 256 → (x = UInt8.ofNat n ↔ x.toNat = n) := fun x n hn => by
      constructor
      · intro e; rw [e, UInt8.toNat_ofNat']; omega
      · intro e; rw [← e]; simp
    unfold le4
    simp only [List.cons.injEq, and_true]
    rw [key a _ (by omega), key b _ (by omega), key c _ (by omega), key d _ (by omega)]
    omega
section
variable {W w : World} {X : List Asn} {u : Value} {bs : List UInt8}
set_option maxRecDepth 20000 in
set_option maxHeartbeats 4000000 in
theorem runframe_c (hu : Bs w u bs) : Calls Tryz.prog 11 #[u] w (UnPost w bs) := by
  obtain ⟨A, c, rfl⟩ := hu.rd.slice
  have hul := hu.2
  have HB := Lib.hid hu
  have HR := Lib.hid ((St.nil w).read78 hu)
  obtain ⟨⟨x, b1, e1⟩, hr⟩ : ∃ r, bytesS bs 0 524288 = r := ⟨_, rfl⟩
  have HBY := Lib.hid (fun w' p (h : St w w' [aRr w p bs 0]) => (show Calls Tryz.prog 48 #[.pointer (some ⟨p, 0, none⟩), .int .i64 524288] w' (TakePostR w p [] (x, b1, e1)) from by rw [← hr]; exact h.bytes119 524288 (by decide)))
  obtain ⟨⟨s, b2, e2⟩, ht⟩ : ∃ t, takeS b1 e1 4 = t := ⟨_, rfl⟩
  have HTK := Lib.hid (fun w' p Y (h : St w w' (aRr w p b1 e1 :: Y)) => (show Calls Tryz.prog 49 #[.pointer (some ⟨p, 0, none⟩), .int .i64 4] w' (TakePostR w p Y (s, b2, e2)) from by rw [← ht]; exact h.take118 4 (by decide)))
  by_cases he : e2 = 0
  · subst he
    obtain ⟨rfl, h4, rfl, hb2⟩ := takeS4 ht
    have hbs := bytesS_read hr
    have hlen : b1.length ≤ bs.length := by rw [hbs, List.length_append]; omega
    have hun : unframeF bs = if b1.take 4 = le4 (sumF (bs.take (bs.length - b1.length))) then some (x, bs.length - b1.length + 4) else none := by
      unfold unframeF
      rw [hr]
      simp only
      rw [ht]
      simp
    obtain ⟨n, hn⟩ : ∃ n, bs.length - b1.length = n := ⟨_, rfl⟩
    rw [hn] at hun
    have hnL : n + 4 ≤ bs.length := by omega
    have HCUT := Lib.hid (hu.pre n (by omega))
    obtain ⟨z, hz⟩ : ∃ z, sumF (bs.take n) = z := ⟨_, rfl⟩
    have HZ := Lib.hid hz
    rw [hz] at hun
    have HUN := Lib.hid hun
    unfold big at hul
    have hcap := hu.capLe
    have hnL2 : (n : Int) ≤ c := by omega
    obtain ⟨L, hL⟩ : ∃ L, bs.length = L := ⟨_, rfl⟩
    obtain ⟨R, hR⟩ : ∃ R, b1.length = R := ⟨_, rfl⟩
    have HRL := Lib.hid hR
    have q1 : IntKind.i64.wrap ((L : Int) - (R : Int)) = (n : Int) := by simp [IntKind.wrap, IntKind.signed, IntKind.bits]; omega
    have q5 : wrap64 (n : Int) = (n : Int) := by unfold wrap64; omega
    have hn4 : (n : Int) + 4 ≤ 9223372036854775807 := by omega
    obtain ⟨s0, s1, s2, s3, hs, hq⟩ := le4_dec (b1.take 4) (by rw [List.length_take]; omega) z
    have HSS := Lib.hid hs
    rw [hL] at HR ⊢
    have a0 : s0.toNat < 256 := s0.toNat_lt
    have a1 : s1.toNat < 256 := s1.toNat_lt
    have a2 : s2.toNat < 256 := s2.toNat_lt
    have a3 : s3.toNat < 256 := s3.toNat_lt
    clear hu hul hr ht h4 hb2 hbs hlen hun hn hnL hz hL hR hcap hs
    go_enter Tryz.func11, Tryz.ntmps11
    go_wp2_with (first
      | (go_at_call 47; (with_reducible refine HR.out.mono ?_); rintro e w1 ⟨p, rfl, hS⟩; have H1 := Lib.hid hS; clear hS)
      | (go_at_call 48; (with_reducible refine (HBY.out _ _ H1.out).mono ?_); rintro e w2 ⟨v6, rfl, hS⟩; have H2 := Lib.hid hS; obtain ⟨A6, c6, k60, k61, _⟩ := hS.swap.rr; rw [HRL.out] at k60; clear hS)
      | (go_at_call 49; (with_reducible refine (HTK.out _ _ _ H2.out.swap).mono ?_); rintro e w3 ⟨v7, rfl, hS⟩; have H3 := Lib.hid hS; obtain ⟨A7, c7, k70, k71, _⟩ := hS.swap.rr; clear hS k60 k61))
    have hrow : St w w3 (aRow 5 1 v7 4 (cellsB [s0, s1, s2, s3]) :: [aRr w p b2 0, aBy v6 x]) := by
      have := H3.out
      rw [HSS.out] at this
      exact this
    obtain ⟨A8, c8, rfl⟩ := hrow.rowSlice
    obtain ⟨g, rfl⟩ := hrow.rowSome (by omega)
    have k0 : w3.cell? ⟨g, 0, none⟩ = some (.int .u8 (s0.toNat : Int)) := hrow.rowAt (j := 0) rfl
    have k1 : w3.cell? ⟨g, 1, none⟩ = some (.int .u8 (s1.toNat : Int)) := hrow.rowAt (j := 1) rfl
    have k2 : w3.cell? ⟨g, 2, none⟩ = some (.int .u8 (s2.toNat : Int)) := hrow.rowAt (j := 2) rfl
    have k3 : w3.cell? ⟨g, 3, none⟩ = some (.int .u8 (s3.toNat : Int)) := hrow.rowAt (j := 3) rfl
    have HSU := Lib.hid (fun m => show Calls Tryz.prog 14 #[.slice A n c] (w3.drewN m) fun e w' => e = .returned (.int .u32 (z.toNat : Int)) ∧ w3.drewN m = w' from by
      have := rsum_c (HCUT.out.later (H3.out.drewN m).b)
      rw [HZ.out] at this
      exact this)
    generalize s0.toNat = y0 at *
    generalize s1.toNat = y1 at *
    generalize s2.toNat = y2 at *
    generalize s3.toNat = y3 at *
    obtain ⟨d1, g1, f1⟩ : ∃ d : Nat, d = 256 * y1 + y0 ∧ bits BinOp.or IntKind.u32 (y0 : Int) ((y1 : Int) * 256) = (d : Int) := ⟨_, rfl, by have := or32 y0 y1 8 (by omega) (by omega); rw [← this]; congr 1; omega⟩
    obtain ⟨d2, g2, f2⟩ : ∃ d : Nat, d = 65536 * y2 + d1 ∧ bits BinOp.or IntKind.u32 (d1 : Int) ((y2 : Int) * 65536) = (d : Int) := ⟨_, rfl, by have := or32 d1 y2 16 (by omega) (by omega); rw [← this]; congr 1; omega⟩
    obtain ⟨d3, g3, f3⟩ : ∃ d : Nat, d = 16777216 * y3 + d2 ∧ bits BinOp.or IntKind.u32 (d2 : Int) ((y3 : Int) * 16777216) = (d : Int) := ⟨_, rfl, by have := or32 d2 y3 24 (by omega) (by omega); rw [← this]; congr 1; omega⟩
    have hq2 : b1.take 4 = le4 z ↔ d3 = z.toNat := hq.trans (by omega)
    have HQ := Lib.hid hq2
    clear hrow k70 k71 g1 g2 g3 hq hq2
    by_cases hq : d3 = z.toNat
    · have q9 : ((z.toNat : Int) != (d3 : Int)) = false := by rw [hq]; simp
      have HE := Lib.hid (HQ.out.2 hq)
      clear hq
      go_quiet ((go_at_call 14; exact Calls.quiet_of_same ((HSU.out _).mono fun _ _ ⟨a, b⟩ => ⟨a, b.symm⟩)))
      go_wp2_with fail
      go_ret3
      unfold UnPost
      rw [HUN.out, if_pos HE.out]
      exact ⟨_, rfl, (H3.out.drewN _).drop.drop⟩
    · have q9 : ((z.toNat : Int) != (d3 : Int)) = true := by simp; omega
      have HE := Lib.hid (fun h => hq (HQ.out.1 h))
      clear hq
      go_quiet ((go_at_call 14; exact Calls.quiet_of_same ((HSU.out _).mono fun _ _ ⟨a, b⟩ => ⟨a, b.symm⟩)))
      go_wp2_with fail
      go_ret3
      unfold UnPost
      rw [HUN.out, if_neg HE.out]
      exact ⟨rfl, (H3.out.drewN _).b⟩
  · have hun : unframeF bs = none := by
      unfold unframeF
      rw [hr]
      simp only
      rw [ht]
      simp [he]
    have HUN := Lib.hid hun
    obtain ⟨L, hL⟩ : ∃ L, bs.length = L := ⟨_, rfl⟩
    have hLs : L ≤ 140737488355328 := by unfold big at hul; omega
    by_cases h1 : e1 = 0
    · subst h1
      have hlen : b1.length ≤ bs.length := by have := bytesS_all bs 0 524288; rw [hr] at this; simp only at this; omega
      obtain ⟨R, hR⟩ : ∃ R, b1.length = R := ⟨_, rfl⟩
      have HRL := Lib.hid hR
      have q3 : (e2 != 0) = true := by simpa using he
      have q1 : IntKind.i64.wrap ((L : Int) - (R : Int)) = ((L - R : Nat) : Int) := by simp [IntKind.wrap, IntKind.signed, IntKind.bits]; omega
      generalize L - R = n at *
      rw [hL] at HR ⊢
      clear hu hul hr ht hun he hL hlen hR
      go_enter Tryz.func11, Tryz.ntmps11
      go_wp2_with (first
        | (go_at_call 47; (with_reducible refine HR.out.mono ?_); rintro e w1 ⟨p, rfl, hS⟩; have H1 := Lib.hid hS; clear hS)
        | (go_at_call 48; (with_reducible refine (HBY.out _ _ H1.out).mono ?_); rintro e w2 ⟨v6, rfl, hS⟩; have H2 := Lib.hid hS; obtain ⟨A6, c6, k60, k61, _⟩ := hS.swap.rr; rw [HRL.out] at k60; clear hS)
        | (go_at_call 49; (with_reducible refine (HTK.out _ _ _ H2.out.swap).mono ?_); rintro e w3 ⟨v7, rfl, hS⟩; have H3 := Lib.hid hS; obtain ⟨A7, c7, k70, k71, _⟩ := hS.swap.rr; clear hS k60 k61))
      go_ret3
      unfold UnPost
      rw [HUN.out]
      exact ⟨rfl, H3.out.b⟩
    · have q3 : (e1 != 0) = true := by simpa using h1
      rw [hL] at HR ⊢
      clear hu hul hr ht hun he hL h1
      go_enter Tryz.func11, Tryz.ntmps11
      go_wp2_with (first
        | (go_at_call 47; (with_reducible refine HR.out.mono ?_); rintro e w1 ⟨p, rfl, hS⟩; have H1 := Lib.hid hS; clear hS)
        | (go_at_call 48; (with_reducible refine (HBY.out _ _ H1.out).mono ?_); rintro e w2 ⟨v6, rfl, hS⟩; have H2 := Lib.hid hS; obtain ⟨A6, c6, k60, k61, _⟩ := hS.swap.rr; clear hS))
      go_ret3
      unfold UnPost
      rw [HUN.out]
      exact ⟨rfl, H2.out.b⟩
end
end Go.Proofs.YtnpjfjgnhadmjaaGreatDoor

/- Lists of byte strings as an object. -/
namespace Go.Proofs.YtnpjfjgnhadmjaaGreatDoor
open Go.RowKit
set_option linter.unusedVariables false

theorem info47 : (Tryz.prog.info? 22).map (fun i => (i.zero, i.size, i.bytes)) = some (some (.slice none 0 0), 1, 24) := by kernel_rfl
/-- a list of byte strings in rows of the table's own -/
def Els (own : Nat → Prop) (w : World) (vs : List Value) (M : List (List UInt8)) : Prop :=
  vs.length = M.length ∧ ∀ (i : Nat) (v : Value) (b : List UInt8), vs[i]? = some v → M[i]? = some b → w.ownsRow 0 5 1 v b.length (cellsB b) ∧ b.length ≤ big ∧ ∀ g, v.ownBlock = some g → own g
theorem Els.nil (own : Nat → Prop) (w : World) : Els own w [] [] := ⟨rfl, fun i v b h => by simp at h⟩
/-- only blocks that hold no bytes may have turned -/
theorem Els.ext {own own' : Nat → Prop} {w w' : World} {vs : List Value} {M : List (List UInt8)} (h : Els own w vs M) (hb : Ext own' w w') (hd : ∀ g cs, own g → Blk w g 5 cs → ¬ own' g) : Els own w' vs M := by
  refine ⟨h.1, fun i v b hv hm => ?_⟩
  obtain ⟨h1, h2, h3⟩ := h.2 i v b hv hm
  refine ⟨row_ext h1 hb (fun g hg => ?_), h2, h3⟩
  rcases h1.2 with ⟨rfl, _⟩ | ⟨g', cap, cur, rfl, _, hh, _⟩
  · simp [Value.ownBlock] at hg
  · have : g' = g := by simpa [Value.ownBlock] using hg
    subst this
    exact hd _ _ (h3 _ hg) hh
theorem Els.later {own : Nat → Prop} {w w' : World} {vs : List Value} {M : List (List UInt8)} (h : Els own w vs M) (hb : B w w') : Els own w' vs M := h.ext (Ext.of_B (own := fun _ => False) hb) (fun _ _ _ _ => id)
theorem Els.mono {own own' : Nat → Prop} {w : World} {vs : List Value} {M : List (List UInt8)} (h : Els own w vs M) (hs : ∀ b, own b → own' b) : Els own' w vs M :=
  ⟨h.1, fun i v b hv hm => let ⟨h1, h2, h3⟩ := h.2 i v b hv hm; ⟨h1, h2, fun g hg => hs _ (h3 g hg)⟩⟩
theorem Els.snoc {own : Nat → Prop} {w : World} {vs : List Value} {M : List (List UInt8)} (h : Els own w vs M) {v : Value} {b : List UInt8} (h1 : w.ownsRow 0 5 1 v b.length (cellsB b)) (h2 : b.length ≤ big) (h3 : ∀ g, v.ownBlock = some g → own g) : Els own w (vs ++ [v]) (M ++ [b]) := by
  refine ⟨by simp [h.1], fun i u c hu hc => ?_⟩
  by_cases hi : i < vs.length
  · rw [List.getElem?_append_left hi] at hu
    rw [List.getElem?_append_left (by rw [← h.1]; exact hi)] at hc
    exact h.2 i u c hu hc
  · rw [List.getElem?_append_right (by omega)] at hu
    rw [List.getElem?_append_right (by rw [← h.1]; omega)] at hc
    have : i - vs.length = 0 := by
      rcases Nat.eq_zero_or_pos (i - vs.length) with e | e
      · exact e
      · rw [List.getElem?_eq_none (by simp; omega)] at hu; cases hu
    rw [this] at hu
    rw [← h.1, this] at hc
    simp at hu hc
    subst hu hc
    exact ⟨h1, h2, h3⟩
theorem Els.bs {own : Nat → Prop} {w : World} {vs : List Value} {M : List (List UInt8)} (h : Els own w vs M) {i : Nat} {v : Value} {b : List UInt8} (hv : vs[i]? = some v) (hm : M[i]? = some b) : Bs w v b :=
  let ⟨h1, h2, _⟩ := h.2 i v b hv hm
  Bs.of_own h1 h2
theorem Els.one {own : Nat → Prop} {w : World} {vs : List Value} {M : List (List UInt8)} (h : Els own w vs M) : ∀ x ∈ vs, x.oneCell' = true := by
  intro x hx
  obtain ⟨i, hi, rfl⟩ := List.mem_iff_getElem.1 hx
  obtain ⟨r1, _⟩ := h.2 i _ _ (List.getElem?_eq_getElem hi) (List.getElem?_eq_getElem (by rw [← h.1]; exact hi))
  obtain ⟨A, c, e⟩ := own_slice r1
  rw [e]; rfl
/-- the rows of Plain as an object -/
def aPl (v : Value) (M : List (List UInt8)) : Asn where
  at_ own w := ∃ vs, (w.ownsRow 0 22 1 v M.length vs ∧ ∀ g, v.ownBlock = some g → own g) ∧ Els own w vs M
  ext := fun ⟨vs, h1, h2⟩ hx hd => ⟨vs, ⟨row_ext h1.1 hx (fun g hg => hd g (h1.2 g hg)), h1.2⟩, h2.ext hx (fun g _ hg _ => hd g hg)⟩
  bound := fun ⟨vs, h1, h2⟩ => ⟨vs, ⟨h1.1, fun g hg => ⟨h1.2 g hg, row_lt h1.1 hg⟩⟩, h2.1, fun i v b hv hm => let ⟨r1, r2, r3⟩ := h2.2 i v b hv hm; ⟨r1, r2, fun g hg => ⟨r3 g hg, row_lt r1 hg⟩⟩⟩
theorem aPl.nil {W w : World} {L : List Asn} (h : St W w L) : St W w (aPl (.slice none 0 0) [] :: L) :=
  h.add (Below.refl _ _) (A := aPl (.slice none 0 0) []) (own := fun _ => False) ⟨[], ⟨ownNil _ _ _ _, fun g hg => by simp [Value.ownBlock] at hg⟩, Els.nil _ _⟩ (fun x e => e.elim)
theorem aPl.slice {W w : World} {v : Value} {M : List (List UInt8)} {L : List Asn} (h : St W w (aPl v M :: L)) : ∃ A c, v = .slice A M.length c := by
  obtain ⟨own, ⟨vs, ⟨h1, h2⟩, h3⟩, ho⟩ := h.get
  exact own_slice h1
/-- 'append(l, x)': a byte slice of its own goes over to the rows -/
theorem St.plAppend {W w : World} {L : List Asn} {x v : Value} {b : List UInt8} {M : List (List UInt8)} {ty : TypeId} (h : St W w (aPl v M :: aBy x b :: L)) (hb : b.length ≤ big) (hl : M.length + 1 ≤ 1099511627776) :
    ∃ A c w', (Builtin.append_ #[63, 63] ty #[v, .slice (some ⟨w.heap.size, 0, none⟩) 1 1]).run Tryz.prog (w.alloc (.cells #[x] 22)) = .ok (.slice A (M.length + 1) c) w' ∧ St W w' (aPl (.slice A (M.length + 1) c) (M ++ [b]) :: L) := by
  obtain ⟨own, ⟨o1, o2, k1, k2, k3, ⟨vs, ⟨h1, h2⟩, h3⟩, ⟨h4, h5⟩⟩, ho, hback⟩ := h.merge.focus
  obtain ⟨Ax, cx, rfl⟩ := own_slice h4
  have hBa := B.alloc' w (.cells #[.slice Ax b.length cx] 22)
  have hq1 := row_later h1 hBa
  obtain ⟨v', w', hrun, r4, x4, y4⟩ := append_Rd (P := Tryz.prog) (t := 63) (ty := ty) Tryz.underlying63 info47 rfl Nat.zero_lt_one hq1 (Rd.one w (.slice Ax b.length cx) 22) (by simp [Value.oneCell']) (by unfold maxLen; omega) (by omega) (Nat.zero_le _)
  obtain ⟨A, c, rfl⟩ := own_slice r4
  refine ⟨A, c, w', hrun, ?_⟩
  have hgx : Ext (fun g => some g = v.ownBlock) (w.alloc (.cells #[.slice Ax b.length cx] 22)) w' := (Ext.refl _ _).grown x4 (fun g e _ => e.symm)
  have f7 := (h3.later hBa).ext hgx (fun g cs _ hB' e => row_ne hq1 hB' (by decide) e.symm)
  have q2 := row_later h4 hBa
  have q3 := row_ext q2 hgx (fun g hg e => row_row hq1 q2 (by decide) e.symm hg)
  have f8 := (f7.mono (own' := fun x => own x ∨ w.heap.size ≤ x) (fun g hg => .inl (k1 g hg))).snoc q3 hb (fun g hg => .inl (k2 g (h5 g hg)))
  refine hback w' (aPl (.slice A (M.length + 1) c) (M ++ [b])) ((Ext.of_B hBa).grown x4 (fun g e _ => k1 g (h2 g e))) ⟨_, ⟨by rw [List.length_append]; exact r4, fun g hg => ?_⟩, f8⟩
  rcases y4 with e | e
  · exact .inl (k1 g (h2 g (by rw [← e, hg])))
  · right; rw [e] at hg; injection hg with hg; simp at hg; omega
end Go.Proofs.YtnpjfjgnhadmjaaGreatDoor

/- Objects in any order; many objects as one; a map as an object. No program here. -/
namespace Go.Proofs.YtnpjfjgnhadmjaaGreatDoor
open Go.RowKit
set_option linter.unusedVariables false

theorem Sep.perm {w : World} {L L' : List Asn} (hp : L.Perm L') : ∀ {U : Nat → Prop}, Sep w U L → Sep w U L' := by
  induction hp with
  | nil => intro U h; exact h
  | cons A _ ih =>
    intro U h
    obtain ⟨own, h1, h2, h3⟩ := h
    exact ⟨own, h1, h2, ih h3⟩
  | swap A C L => intro U h; exact h.swap
  | trans _ _ ih1 ih2 => intro U h; exact ih2 (ih1 h)
theorem St.perm {W w : World} {L L' : List Asn} (h : St W w L) (hp : L.Perm L') : St W w L' := ⟨h.1, h.2.perm hp⟩
theorem Sep.append {w : World} {L' : List Asn} : ∀ {L : List Asn} {U : Nat → Prop}, Sep w U (L ++ L') → ∃ own : Nat → Prop, (∀ b, own b → U b ∧ b < w.heap.size) ∧ Sep w own L ∧ Sep w (fun b => U b ∧ ¬ own b) L'
  | [], U, h => ⟨fun _ => False, fun b hb => hb.elim, trivial, h.mono fun b _ hb => ⟨hb, id⟩⟩
  | A :: L, U, h => by
    obtain ⟨o, h1, h2, h3⟩ := h
    obtain ⟨o', k1, k2, k3⟩ := Sep.append h3
    refine ⟨fun b => o b ∨ o' b, fun b hb => hb.elim (fun e => h1 b e) (fun e => ⟨(k1 b e).1.1, (k1 b e).2⟩), ⟨o, fun b hb => ⟨.inl hb, (h1 b hb).2⟩, h2, k2.mono fun b _ hb => ⟨.inr hb, (k1 b hb).1.2⟩⟩, k3.mono fun b _ hb => ⟨hb.1.1, fun e => e.elim hb.1.2 hb.2⟩⟩
theorem Sep.join {w : World} {L' : List Asn} : ∀ {L : List Asn} {U own : Nat → Prop}, (∀ b, own b → U b) → Sep w own L → Sep w (fun b => U b ∧ ¬ own b) L' → Sep w U (L ++ L')
  | [], U, own, h0, h, h' => h'.mono fun b _ hb => hb.1
  | A :: L, U, own, h0, h, h' => by
    obtain ⟨o, h1, h2, h3⟩ := h
    refine ⟨o, fun b hb => ⟨h0 b (h1 b hb).1, (h1 b hb).2⟩, h2, Sep.join (own := fun b => own b ∧ ¬ o b) (fun b hb => ⟨h0 b hb.1, hb.2⟩) h3 (h'.mono fun b _ hb => ⟨⟨hb.1, fun e => hb.2 (h1 b e).1⟩, fun e => hb.2 e.1⟩)⟩
/-- an object that is many, for some datum -/
def aSome {α : Type} (P : α → Prop) (F : α → List Asn) : Asn where
  at_ own w := ∃ a, P a ∧ Sep w own (F a)
  ext h hx hd := by
    obtain ⟨a, ha, h⟩ := h
    exact ⟨a, ha, (h.ext hx (fun b _ hb => hd b hb)).mono fun b _ hb => hb.1⟩
  bound h := by
    obtain ⟨a, ha, h⟩ := h
    exact ⟨a, ha, h.mono fun b hl hb => ⟨hb, hl⟩⟩
theorem St.open_ {W w : World} {α : Type} {P : α → Prop} {F : α → List Asn} {L : List Asn} (h : St W w (aSome P F :: L)) : ∃ a, P a ∧ St W w (F a ++ L) := by
  obtain ⟨hb, own, h1, ⟨a, ha, h2⟩, h3⟩ := h
  exact ⟨a, ha, hb, Sep.join (fun b hb => (h1 b hb).1) h2 h3⟩
theorem St.shut {W w : World} {α : Type} {P : α → Prop} {F : α → List Asn} {L : List Asn} {a : α} (ha : P a) (h : St W w (F a ++ L)) : St W w (aSome P F :: L) := by
  obtain ⟨hb, h⟩ := h
  obtain ⟨own, h1, h2, h3⟩ := Sep.append h
  exact ⟨hb, own, h1, ⟨a, ha, h2⟩, h3⟩
theorem perm_pick {α : Type} {L : List α} {i : Nat} {a : α} (h : L[i]? = some a) : L.Perm (a :: (L.take i ++ L.drop (i + 1))) := by
  have hi : i < L.length := by
    rcases Nat.lt_or_ge i L.length with h' | h'
    · exact h'
    · rw [List.getElem?_eq_none h'] at h; cases h
  have e : L[i] = a := by rw [List.getElem?_eq_getElem hi] at h; exact Option.some.inj h
  have h2 : L = L.take i ++ (a :: L.drop (i + 1)) := by
    rw [← e, ← List.drop_eq_getElem_cons hi, List.take_append_drop]
  conv => lhs; rw [h2]
  exact List.perm_middle
/-- elements that are pointers read as their blocks' numbers -/
def ptrElem : Value → Option (DataW Unit × List MemPlace)
  | .pointer none => some (.nil, [])
  | .pointer (some ⟨g, 0, none⟩) => some (.lit (.int .i64 (g : Int)), [])
  | _ => none
theorem ptrElem_inv {v : Value} {g : Nat} {ps : List MemPlace} (h : ptrElem v = some (.lit (.int .i64 (g : Int)), ps)) : v = .pointer (some ⟨g, 0, none⟩) := by
  unfold ptrElem at h
  split at h
  · cases h
  · rename_i g'
    simp at h
    have : g' = g := by omega
    rw [this]
  · cases h
end Go.Proofs.YtnpjfjgnhadmjaaGreatDoor

/- A disk in plain Lean: files in rising order of their names; what each call answers and leaves. -/
namespace Go.Proofs.YtnpjfjgnhadmjaaGreatDoor
set_option linter.unusedVariables false

/-- a file: its name, its bytes, how many are synced -/
structure Fl where
  nm : List UInt8
  b : List UInt8
  sure : Nat
/-- a disk -/
structure Dk where
  R : List Fl
  room : Int
  off : Bool
def ixF (n : List UInt8) : List Fl → Option Nat
  | [] => none
  | f :: r => if f.nm = n then some 0 else (ixF n r).map (· + 1)
def posF (n : List UInt8) : List Fl → Nat
  | [] => 0
  | f :: r => if bytesBefore f.nm n then posF n r + 1 else 0
def usedF (R : List Fl) : Nat := (R.map (fun f => f.b.length)).sum
def mayF (d : Dk) (n : List UInt8) : Option Nat × Int := if d.off then (none, 32) else match ixF n d.R with | none => (none, 4) | some i => (some i, 0)
def createF (d : Dk) (n : List UInt8) : Int × Dk :=
  if d.off then (32, d) else if n = [] then (1, d) else if (ixF n d.R).isSome then (31, d) else if 64 ≤ d.R.length then (6, d) else
    (0, { d with R := d.R.take (posF n d.R) ++ ⟨n, [], 0⟩ :: d.R.drop (posF n d.R) })
/-- the i-th file turned -/
def turnF (d : Dk) (n : List UInt8) (g : Fl → Int × Fl) : Int × Dk :=
  match mayF d n with
  | (some i, _) => match d.R[i]? with
    | some f => ((g f).1, { d with R := d.R.set i (g f).2 })
    | none => (0, d)
  | (none, e) => (e, d)
def writeB (d : Dk) (at_ : Int) (b : List UInt8) (f : Fl) : Int × Fl :=
  if at_ < 0 ∨ (f.b.length : Int) < at_ then (1, f)
  else if d.room - usedF d.R < (b.length : Int) - ((f.b.length : Int) - at_) then (30, f)
  else (0, ⟨f.nm, f.b.take at_.toNat ++ b ++ f.b.drop (at_.toNat + b.length), min f.sure at_.toNat⟩)
def writeF (d : Dk) (n : List UInt8) (at_ : Int) (b : List UInt8) : Int × Dk := turnF d n (writeB d at_ b)
def appendF (d : Dk) (n b : List UInt8) : Int × Dk := turnF d n fun f => if d.room - usedF d.R < (b.length : Int) then (30, f) else (0, ⟨f.nm, f.b ++ b, f.sure⟩)
def syncF (d : Dk) (n : List UInt8) : Int × Dk := turnF d n fun f => (0, ⟨f.nm, f.b, f.b.length⟩)
def truncF (d : Dk) (n : List UInt8) (k : Int) : Int × Dk := turnF d n fun f => if k < 0 ∨ (f.b.length : Int) < k then (1, f) else (0, ⟨f.nm, f.b.take k.toNat, min f.sure k.toNat⟩)
def dropF (n : List UInt8) (R : List Fl) : List Fl := match ixF n R with | some i => R.take i ++ R.drop (i + 1) | none => R
def insF (f : Fl) (R : List Fl) : List Fl := R.take (posF f.nm R) ++ f :: R.drop (posF f.nm R)
def removeF (d : Dk) (n : List UInt8) : Int × Dk :=
  match mayF d n with
  | (some i, _) => (0, { d with R := d.R.take i ++ d.R.drop (i + 1) })
  | (none, e) => (e, d)
def renameF (d : Dk) (n to : List UInt8) : Int × Dk :=
  match mayF d n with
  | (some i, _) => match d.R[i]? with
    | some f => if to = [] then (1, d) else if to = n then (0, d) else (0, { d with R := insF ⟨to, f.b, f.sure⟩ (dropF to (dropF n d.R)) })
    | none => (0, d)
  | (none, e) => (e, d)
def getF (d : Dk) (n : List UInt8) : List UInt8 × Int :=
  match mayF d n with
  | (some i, _) => ((d.R[i]?.map Fl.b).getD [], 0)
  | (none, e) => ([], e)
def syncedF (d : Dk) (n : List UInt8) : Nat × Int :=
  match mayF d n with
  | (some i, _) => ((d.R[i]?.map Fl.sure).getD 0, 0)
  | (none, e) => (0, e)
def bareF (k : Int) : Int := if k = -9223372036854775808 then 0 else if k < 0 then -k else k
def crashB (k : Int) (f : Fl) : Fl :=
  let m := f.sure + (bareF k % ((f.b.length : Int) - f.sure + 1)).toNat
  ⟨f.nm, f.b.take m, m⟩
def crashF (d : Dk) (k : Int) : Int × Dk := if d.off then (32, d) else (0, { d with R := d.R.map (crashB k), off := true })
def restartF (d : Dk) : Int × Dk := if d.off then (0, { d with off := false }) else (1, d)

/-- what is true of every disk -/
structure Dk.ok (d : Dk) : Prop where
  rise : d.R.Pairwise (fun a b => bytesBefore a.nm b.nm = true)
  sure : ∀ f ∈ d.R, f.sure ≤ f.b.length
  used : (usedF d.R : Int) ≤ d.room
  room : 0 ≤ d.room ∧ d.room ≤ 4194304
  many : d.R.length ≤ 64

theorem ixF_some {n : List UInt8} : ∀ {R : List Fl} {i : Nat}, ixF n R = some i → ∃ f, R[i]? = some f ∧ f.nm = n ∧ ∀ j, j < i → ∀ g, R[j]? = some g → g.nm ≠ n
  | [], i, h => by simp [ixF] at h
  | f :: r, i, h => by
    unfold ixF at h
    split at h
    · rename_i e
      simp at h; subst h
      exact ⟨f, rfl, e, fun j hj => by omega⟩
    · rename_i e
      cases hr : ixF n r with
      | none => rw [hr] at h; simp at h
      | some k =>
        rw [hr] at h
        simp at h
        subst h
        obtain ⟨g, h1, h2, h3⟩ := ixF_some hr
        refine ⟨g, by simpa using h1, h2, fun j hj x hx => ?_⟩
        cases j with
        | zero => simp at hx; rw [← hx]; exact e
        | succ j => exact h3 j (by omega) x (by simpa using hx)
theorem ixF_none {n : List UInt8} : ∀ {R : List Fl}, ixF n R = none → ∀ f ∈ R, f.nm ≠ n
  | [], h, f, hf => by simp at hf
  | x :: r, h, f, hf => by
    unfold ixF at h
    split at h
    · simp at h
    · rename_i e
      simp at h
      rcases List.mem_cons.1 hf with rfl | hf
      · exact e
      · exact ixF_none h f hf
theorem bb_irr : ∀ a : List UInt8, bytesBefore a a = false
  | [] => rfl
  | a :: r => by simp [bytesBefore, bb_irr r]
theorem bb_trans : ∀ a b c : List UInt8, bytesBefore a b = true → bytesBefore b c = true → bytesBefore a c = true
  | [], [], _, h, _ => by simp [bytesBefore] at h
  | [], _ :: _, [], _, h => by simp [bytesBefore] at h
  | [], _ :: _, _ :: _, _, _ => rfl
  | _ :: _, [], _, h, _ => by simp [bytesBefore] at h
  | _ :: _, _ :: _, [], _, h => by simp [bytesBefore] at h
  | a :: r, b :: s, c :: t, h, k => by
    simp only [bytesBefore, Bool.or_eq_true, Bool.and_eq_true, decide_eq_true_eq, beq_iff_eq] at h k ⊢
    rcases h with h | ⟨rfl, h⟩
    · rcases k with k | ⟨rfl, k⟩
      · exact .inl (UInt8.lt_trans h k)
      · exact .inl h
    · rcases k with k | ⟨rfl, k⟩
      · exact .inl k
      · exact .inr ⟨rfl, bb_trans r s t h k⟩
theorem bb_tri : ∀ a b : List UInt8, bytesBefore a b = true ∨ a = b ∨ bytesBefore b a = true
  | [], [] => .inr (.inl rfl)
  | [], _ :: _ => .inl rfl
  | _ :: _, [] => .inr (.inr rfl)
  | a :: r, b :: s => by
    simp only [bytesBefore, Bool.or_eq_true, Bool.and_eq_true, decide_eq_true_eq, beq_iff_eq]
    rcases Nat.lt_trichotomy a.toNat b.toNat with h | h | h
    · exact .inl (.inl (UInt8.lt_iff_toNat_lt.2 h))
    · obtain rfl := UInt8.toNat_inj.1 h
      rcases bb_tri r s with k | k | k
      · exact .inl (.inr ⟨rfl, k⟩)
      · subst k; exact .inr (.inl rfl)
      · exact .inr (.inr (.inr ⟨rfl, k⟩))
    · exact .inr (.inr (.inl (UInt8.lt_iff_toNat_lt.2 h)))
theorem posF_le (n : List UInt8) : ∀ R : List Fl, posF n R ≤ R.length
  | [] => Nat.le_refl _
  | f :: r => by unfold posF; split <;> simp <;> have := posF_le n r <;> omega
theorem posF_lt (n : List UInt8) : ∀ (R : List Fl) (j : Nat) (f : Fl), j < posF n R → R[j]? = some f → bytesBefore f.nm n = true
  | [], j, f, h, _ => by simp [posF] at h
  | x :: r, j, f, h, hj => by
    unfold posF at h
    split at h
    · rename_i e
      cases j with
      | zero => simp at hj; rw [← hj]; exact e
      | succ j => exact posF_lt n r j f (by omega) (by simpa using hj)
    · omega
theorem posF_at (n : List UInt8) : ∀ (R : List Fl) (f : Fl), R[posF n R]? = some f → bytesBefore f.nm n = false
  | [], f, h => by simp [posF] at h
  | x :: r, f, h => by
    unfold posF at h
    split at h
    · exact posF_at n r f (by simpa using h)
    · rename_i e
      simp at h; rw [← h]; simpa using e
theorem ins_rise {R : List Fl} (h : R.Pairwise (fun a b => bytesBefore a.nm b.nm = true)) (f : Fl) (hn : ∀ g ∈ R, g.nm ≠ f.nm) : (insF f R).Pairwise (fun a b => bytesBefore a.nm b.nm = true) := by
  unfold insF
  induction R with
  | nil => simp [posF]
  | cons x r ih =>
    rw [List.pairwise_cons] at h
    unfold posF
    split
    · rename_i e
      simp only [List.take_succ_cons, List.drop_succ_cons, List.cons_append, List.pairwise_cons]
      refine ⟨fun g hg => ?_, ih h.2 (fun g hg => hn g (List.mem_cons_of_mem _ hg))⟩
      rcases List.mem_append.1 hg with hg | hg
      · exact h.1 g (List.mem_of_mem_take hg)
      · rcases List.mem_cons.1 hg with rfl | hg
        · exact e
        · exact h.1 g (List.mem_of_mem_drop hg)
    · rename_i e
      simp only [List.take_zero, List.drop_zero, List.nil_append, List.pairwise_cons]
      have hx : bytesBefore f.nm x.nm = true := by
        rcases bb_tri f.nm x.nm with k | k | k
        · exact k
        · exact absurd k.symm (hn x (by simp))
        · exact absurd k e
      refine ⟨fun g hg => ?_, h⟩
      rcases List.mem_cons.1 hg with rfl | hg
      · exact hx
      · exact bb_trans _ _ _ hx (h.1 g hg)
theorem drop_rise {R : List Fl} (h : R.Pairwise (fun a b => bytesBefore a.nm b.nm = true)) (i : Nat) : (R.take i ++ R.drop (i + 1)).Pairwise (fun a b => bytesBefore a.nm b.nm = true) := by
  refine h.sublist ?_
  conv => rhs; rw [← List.take_append_drop i R]
  refine List.Sublist.append (List.Sublist.refl _) ?_
  rw [← List.tail_drop]
  exact List.tail_sublist _
theorem set_rise {R : List Fl} (h : R.Pairwise (fun a b => bytesBefore a.nm b.nm = true)) {i : Nat} {f g : Fl} (hi : R[i]? = some f) (hn : g.nm = f.nm) : (R.set i g).Pairwise (fun a b => bytesBefore a.nm b.nm = true) := by
  have e : (R.set i g).map Fl.nm = R.map Fl.nm := by
    rw [List.map_set]
    apply List.ext_getElem?
    intro j
    rw [List.getElem?_set]
    split
    · rename_i e
      subst e
      have hl : i < R.length := by
        rcases Nat.lt_or_ge i R.length with h' | h'
        · exact h'
        · rw [List.getElem?_eq_none h'] at hi; cases hi
      rw [if_pos (by simpa using hl), List.getElem?_map, hi, hn]; rfl
    · rfl
  have h2 : (R.map Fl.nm).Pairwise (fun a b => bytesBefore a b = true) := List.pairwise_map.2 h
  rw [← e] at h2
  exact List.pairwise_map.1 h2
theorem used_set {R : List Fl} {i : Nat} {f g : Fl} (hi : R[i]? = some f) : usedF (R.set i g) + f.b.length = usedF R + g.b.length := by
  unfold usedF
  induction R generalizing i with
  | nil => simp at hi
  | cons x r ih =>
    cases i with
    | zero => simp at hi; subst hi; simp; omega
    | succ i => have := ih (by simpa using hi); simp only [List.set_cons_succ, List.map_cons, List.sum_cons]; omega
theorem used_drop {R : List Fl} {i : Nat} {f : Fl} (hi : R[i]? = some f) : usedF (R.take i ++ R.drop (i + 1)) + f.b.length = usedF R := by
  unfold usedF
  induction R generalizing i with
  | nil => simp at hi
  | cons x r ih =>
    cases i with
    | zero => simp at hi; subst hi; simp; omega
    | succ i => have := ih (by simpa using hi); simp only [List.take_succ_cons, List.drop_succ_cons, List.cons_append, List.map_cons, List.sum_cons]; omega
theorem used_ins (f : Fl) (R : List Fl) : usedF (insF f R) = usedF R + f.b.length := by
  unfold insF usedF
  have h : (R.take (posF f.nm R)).map (fun f => f.b.length) ++ (R.drop (posF f.nm R)).map (fun f => f.b.length) = R.map (fun f => f.b.length) := by rw [← List.map_append, List.take_append_drop]
  have h2 := congrArg List.sum h
  rw [List.sum_append] at h2
  rw [List.map_append, List.map_cons, List.sum_append, List.sum_cons]
  omega

theorem may_some {d : Dk} {n : List UInt8} {i : Nat} {e : Int} (h : mayF d n = (some i, e)) : e = 0 ∧ d.off = false ∧ ∃ f, d.R[i]? = some f ∧ f.nm = n := by
  unfold mayF at h
  split at h
  · simp at h
  · rename_i ho
    split at h
    · simp at h
    · rename_i k hk
      simp at h
      obtain ⟨rfl, rfl⟩ := h
      obtain ⟨f, h1, h2, _⟩ := ixF_some hk
      exact ⟨rfl, by simpa using ho, f, h1, h2⟩
theorem may_none {d : Dk} {n : List UInt8} {e : Int} (h : mayF d n = (none, e)) : e ≠ 0 := by
  unfold mayF at h
  split at h
  · simp at h; omega
  · split at h
    · simp at h; omega
    · simp at h
theorem mem_set {R : List Fl} {i : Nat} {f g : Fl} (h : g ∈ R.set i f) : g ∈ R ∨ g = f := by
  rcases List.mem_or_eq_of_mem_set h with h | h
  · exact .inl h
  · exact .inr h
theorem turn_ok {d : Dk} (h : d.ok) (n : List UInt8) (g : Fl → Int × Fl) (hg : ∀ f ∈ d.R, (g f).2.nm = f.nm ∧ (g f).2.sure ≤ (g f).2.b.length ∧ (usedF d.R : Int) + (g f).2.b.length - f.b.length ≤ d.room) : (turnF d n g).2.ok := by
  unfold turnF
  split
  · rename_i i e hm
    obtain ⟨_, _, f, hf, _⟩ := may_some hm
    rw [hf]
    simp only
    obtain ⟨h1, h2, h3⟩ := hg f (List.mem_of_getElem? hf)
    refine ⟨set_rise h.rise hf h1, fun x hx => ?_, ?_, h.room, ?_⟩
    · rcases mem_set hx with hx | rfl
      · exact h.sure x hx
      · exact h2
    · have := used_set (g := (g f).2) hf
      show (usedF (d.R.set i (g f).2) : Int) ≤ d.room
      omega
    · show (d.R.set i (g f).2).length ≤ 64
      rw [List.length_set]; exact h.many
  · exact h
theorem write_ok {d : Dk} (h : d.ok) (n : List UInt8) (k : Int) (b : List UInt8) : (writeF d n k b).2.ok := by
  refine turn_ok h n _ fun f hf => ?_
  have hs := h.sure f hf
  have hu := h.used
  unfold writeB
  split
  · exact ⟨rfl, hs, by simp only; omega⟩
  · split
    · exact ⟨rfl, hs, by simp only; omega⟩
    · rename_i h1 h2
      refine ⟨rfl, ?_, ?_⟩
      · simp only [List.length_append, List.length_take, List.length_drop]; omega
      · simp only [List.length_append, List.length_take, List.length_drop]
        by_cases hc : f.b.length ≤ k.toNat + b.length
        · omega
        · omega
theorem append_ok {d : Dk} (h : d.ok) (n b : List UInt8) : (appendF d n b).2.ok := by
  refine turn_ok h n _ fun f hf => ?_
  have hs := h.sure f hf
  have hu := h.used
  split
  · exact ⟨rfl, hs, by simp only; omega⟩
  · exact ⟨rfl, by simp only [List.length_append]; omega, by simp only [List.length_append]; omega⟩
theorem sync_ok {d : Dk} (h : d.ok) (n : List UInt8) : (syncF d n).2.ok := by
  refine turn_ok h n _ fun f hf => ?_
  have hu := h.used
  exact ⟨rfl, Nat.le_refl _, by simp only; omega⟩
theorem trunc_ok {d : Dk} (h : d.ok) (n : List UInt8) (k : Int) : (truncF d n k).2.ok := by
  refine turn_ok h n _ fun f hf => ?_
  have hs := h.sure f hf
  have hu := h.used
  split
  · exact ⟨rfl, hs, by simp only; omega⟩
  · exact ⟨rfl, by simp only [List.length_take]; omega, by simp only [List.length_take]; omega⟩
theorem ixF_isNone {n : List UInt8} {R : List Fl} (h : (ixF n R).isSome = false) : ∀ f ∈ R, f.nm ≠ n := ixF_none (by simpa using h)
theorem create_ok {d : Dk} (h : d.ok) (n : List UInt8) : (createF d n).2.ok := by
  unfold createF
  split
  · exact h
  · split
    · exact h
    · split
      · exact h
      · split
        · exact h
        · rename_i h1 h2 h3 h4
          have hi : insF ⟨n, [], 0⟩ d.R = d.R.take (posF n d.R) ++ ⟨n, [], 0⟩ :: d.R.drop (posF n d.R) := rfl
          rw [← hi]
          have hlen : (insF ⟨n, [], 0⟩ d.R).length = d.R.length + 1 := by
            have := posF_le n d.R
            rw [hi]; simp; omega
          refine ⟨ins_rise h.rise _ (ixF_isNone (by simpa using h3)), fun f hf => ?_, ?_, h.room, ?_⟩
          · rw [hi] at hf
            rcases List.mem_append.1 hf with hf | hf
            · exact h.sure f (List.mem_of_mem_take hf)
            · rcases List.mem_cons.1 hf with rfl | hf
              · exact Nat.le_refl _
              · exact h.sure f (List.mem_of_mem_drop hf)
          · show ((usedF (insF ⟨n, [], 0⟩ d.R) : Nat) : Int) ≤ d.room
            rw [used_ins]; have := h.used; simp; omega
          · show (insF ⟨n, [], 0⟩ d.R).length ≤ 64
            omega
theorem dropF_le (n : List UInt8) (R : List Fl) : (dropF n R).length ≤ R.length ∧ usedF (dropF n R) ≤ usedF R ∧ (∀ f ∈ dropF n R, f ∈ R) := by
  unfold dropF
  split
  · rename_i i hi
    obtain ⟨f, h1, _, _⟩ := ixF_some hi
    have := used_drop h1
    refine ⟨by simp; omega, by omega, fun f hf => ?_⟩
    rcases List.mem_append.1 hf with hf | hf
    · exact List.mem_of_mem_take hf
    · exact List.mem_of_mem_drop hf
  · exact ⟨Nat.le_refl _, Nat.le_refl _, fun f h => h⟩
theorem dropF_rise {R : List Fl} (h : R.Pairwise (fun a b => bytesBefore a.nm b.nm = true)) (n : List UInt8) : (dropF n R).Pairwise (fun a b => bytesBefore a.nm b.nm = true) := by
  unfold dropF
  split
  · exact drop_rise h _
  · exact h
theorem dropF_not {R : List Fl} (h : R.Pairwise (fun a b => bytesBefore a.nm b.nm = true)) (n : List UInt8) : ∀ f ∈ dropF n R, f.nm ≠ n := by
  unfold dropF
  split
  · rename_i i hi
    obtain ⟨g, h1, h2, h3⟩ := ixF_some hi
    intro f hf e
    rcases List.mem_append.1 hf with hf | hf
    · obtain ⟨j, hj, e2⟩ := List.mem_iff_getElem.1 hf
      have hj' : j < i ∧ j < R.length := by
        have : j < min i R.length := by simpa using hj
        omega
      exact h3 j hj'.1 f (by rw [List.getElem?_eq_getElem hj'.2, ← e2]; simp) e
    · obtain ⟨j, hj, e2⟩ := List.mem_iff_getElem.1 hf
      have hj' : i + 1 + j < R.length := by simp at hj; omega
      have hi' : i < R.length := by omega
      rw [List.pairwise_iff_getElem] at h
      have := h i (i + 1 + j) hi' hj' (by omega)
      rw [List.getElem_drop] at e2
      rw [List.getElem?_eq_getElem hi'] at h1
      injection h1 with h1
      rw [h1, e2, h2, e, bb_irr] at this
      cases this
  · rename_i hi
    exact ixF_none hi
theorem remove_ok {d : Dk} (h : d.ok) (n : List UInt8) : (removeF d n).2.ok := by
  unfold removeF
  split
  · rename_i i e hm
    obtain ⟨_, _, f, hf, _⟩ := may_some hm
    have hu := used_drop hf
    have := h.used
    refine ⟨drop_rise h.rise i, fun x hx => ?_, ?_, h.room, ?_⟩
    · rcases List.mem_append.1 hx with hx | hx
      · exact h.sure x (List.mem_of_mem_take hx)
      · exact h.sure x (List.mem_of_mem_drop hx)
    · show ((usedF (d.R.take i ++ d.R.drop (i + 1)) : Nat) : Int) ≤ d.room
      omega
    · show (d.R.take i ++ d.R.drop (i + 1)).length ≤ 64
      have := h.many; simp; omega
  · exact h
theorem rename_ok {d : Dk} (h : d.ok) (n to : List UInt8) : (renameF d n to).2.ok := by
  unfold renameF
  split
  · rename_i i e hm
    obtain ⟨_, _, f, hf, hfn⟩ := may_some hm
    rw [hf]
    simp only
    split
    · exact h
    · split
      · exact h
      · have hix : ixF n d.R = some i := by
          unfold mayF at hm
          split at hm
          · simp at hm
          · split at hm
            · simp at hm
            · rename_i k hk; simp at hm; rw [hk, hm.1]
        have hd1 : dropF n d.R = d.R.take i ++ d.R.drop (i + 1) := by unfold dropF; rw [hix]
        have hu1 := used_drop hf
        have hl1 : (dropF n d.R).length + 1 ≤ d.R.length := by
          have hi : i < d.R.length := by
            rcases Nat.lt_or_ge i d.R.length with h' | h'
            · exact h'
            · rw [List.getElem?_eq_none h'] at hf; cases hf
          rw [hd1]; simp; omega
        have h2 := dropF_le to (dropF n d.R)
        have h1 := dropF_le n d.R
        have hpos := posF_le to (dropF to (dropF n d.R))
        have hm' := h.many
        have hu' := h.used
        refine ⟨ins_rise (dropF_rise (dropF_rise h.rise n) to) _ (dropF_not (dropF_rise h.rise n) to), fun x hx => ?_, ?_, h.room, ?_⟩
        · unfold insF at hx
          rcases List.mem_append.1 hx with hx | hx
          · exact h.sure x (h1.2.2 x (h2.2.2 x (List.mem_of_mem_take hx)))
          · rcases List.mem_cons.1 hx with rfl | hx
            · exact h.sure f (List.mem_of_getElem? hf)
            · exact h.sure x (h1.2.2 x (h2.2.2 x (List.mem_of_mem_drop hx)))
        · show ((usedF (insF ⟨to, f.b, f.sure⟩ (dropF to (dropF n d.R))) : Nat) : Int) ≤ d.room
          rw [used_ins, hd1] at *
          simp only
          have := h2.2.1
          rw [hd1] at this
          omega
        · show (insF ⟨to, f.b, f.sure⟩ (dropF to (dropF n d.R))).length ≤ 64
          unfold insF
          simp only [List.length_append, List.length_cons, List.length_take, List.length_drop]
          omega
  · exact h
theorem crashB_ok (k : Int) {f : Fl} (h : f.sure ≤ f.b.length) : (crashB k f).nm = f.nm ∧ (crashB k f).sure = (crashB k f).b.length ∧ (crashB k f).b.length ≤ f.b.length ∧ f.sure ≤ (crashB k f).b.length := by
  have hb : 0 ≤ bareF k := by unfold bareF; split <;> (try split) <;> omega
  have h1 := Int.emod_nonneg (bareF k) (b := (f.b.length : Int) - f.sure + 1) (by omega)
  have h2 := Int.emod_lt_of_pos (bareF k) (b := (f.b.length : Int) - f.sure + 1) (by omega)
  unfold crashB
  simp only [List.length_take]
  refine ⟨trivial, ?_, ?_, ?_⟩ <;> omega
theorem crash_ok {d : Dk} (h : d.ok) (k : Int) : (crashF d k).2.ok := by
  unfold crashF
  split
  · exact h
  · have hu : ∀ R : List Fl, (∀ f ∈ R, f.sure ≤ f.b.length) → usedF (R.map (crashB k)) ≤ usedF R := by
      intro R
      induction R with
      | nil => intro _; exact Nat.le_refl _
      | cons x r ih =>
        intro hs
        have h1 := (crashB_ok k (hs x (by simp))).2.2.1
        have h2 := ih (fun f hf => hs f (List.mem_cons_of_mem _ hf))
        unfold usedF at h2 ⊢
        simp only [List.map_cons, List.sum_cons]
        omega
    refine ⟨?_, fun f hf => ?_, ?_, h.room, ?_⟩
    · refine List.pairwise_map.2 (h.rise.imp_of_mem fun {a b} ha hb hab => ?_)
      rw [(crashB_ok k (h.sure a ha)).1, (crashB_ok k (h.sure b hb)).1]; exact hab
    · obtain ⟨g, hg, rfl⟩ := List.mem_map.1 hf
      have := (crashB_ok k (h.sure g hg)).2.1; omega
    · have := hu d.R h.sure; have := h.used; show ((usedF (d.R.map (crashB k)) : Nat) : Int) ≤ d.room; omega
    · show (d.R.map (crashB k)).length ≤ 64
      rw [List.length_map]; exact h.many
theorem restart_ok {d : Dk} (h : d.ok) : (restartF d).2.ok := by
  unfold restartF
  split
  · exact ⟨h.rise, h.sure, h.used, h.room, h.many⟩
  · exact h
end Go.Proofs.YtnpjfjgnhadmjaaGreatDoor

/- A map of pointers as an object; the loop over it. No program here. -/
namespace Go.Proofs.YtnpjfjgnhadmjaaGreatDoor
open Go.RowKit Go.Maps
set_option linter.unusedVariables false

/-- what a map of files reads as -/
def dOf (E : List (Fl × Nat)) : DataW Unit := .map (E.map fun x => (.string x.1.nm, .lit (.int .i64 (x.2 : Int))))
def aMap (P : Program) (k : TypeId) (m : Nat) (D : DataW Unit) : Asn where
  at_ own w := own m ∧ ∃ n, w.ownsMap P k ptrElem m n D
  ext h hx hd := by
    obtain ⟨h1, n, es, clock, hb, r⟩ := h
    exact ⟨h1, n, es, clock, (hx.block m (Array.getElem?_eq_some_iff.1 hb).1 (hd _ h1)).trans hb, r⟩
  bound h := by
    obtain ⟨h1, n, h2⟩ := h
    exact ⟨⟨h1, h2.lt⟩, n, h2⟩
/-- a loop over it under way -/
def aRange (P : Program) (k : TypeId) (m r : Nat) (D : DataW Unit) (left : Lit → Bool) (cnt : Nat) : Asn where
  at_ own w := own m ∧ own r ∧ ∃ n, w.ranges P k ptrElem m r n D left cnt
  ext h hx hd := by
    obtain ⟨h1, h2, n, es, clock, since, seen, c0, hb, F, hs, hD, hr, rest⟩ := h
    exact ⟨h1, h2, n, es, clock, since, seen, c0, (hx.block m (Array.getElem?_eq_some_iff.1 hb).1 (hd _ h1)).trans hb, F, hs, hD, (hx.block r (Array.getElem?_eq_some_iff.1 hr).1 (hd _ h2)).trans hr, rest⟩
  bound h := by
    obtain ⟨h1, h2, n, h3⟩ := h
    exact ⟨⟨h1, h3.owns.lt⟩, ⟨h2, h3.lt⟩, n, h3⟩
theorem Ext.of_grown {w w' : World} {row : Option Nat} {own : Nat → Prop} (h : w.grownBy w' row) (hr : ∀ g, row = some g → own g) : Ext own w w' :=
  (Ext.refl own w).grown h (fun g hg _ => hr g hg)
/-- the tightest bound -/
theorem ownsMap_tight {H : Type} {w : World} {P : Program} {k : TypeId} {R : Value → Option (DataW H × List MemPlace)} {m n : Nat} {L : List (Lit × DataW H)} (h : w.ownsMap P k R m n (.map L)) : w.ownsMap P k R m L.length (.map L) := by
  obtain ⟨es, clock, hb, F, hs, hD⟩ := h
  refine ⟨es, clock, hb, F, ?_, hD⟩
  injection hD with hD
  rw [hD, length_sorted]; simp
section
variable {W w : World} {P : Program} {k e T : TypeId} {m : Nat} {D : DataW Unit} {L : List Asn}
theorem aMap.new (h : St W w L) : St W (w.alloc (.map #[] 0)) (aMap P k w.heap.size (.map []) :: L) :=
  h.add (B.alloc' _ _) (A := aMap P k w.heap.size (.map [])) (own := fun x => x = w.heap.size) ⟨rfl, 0, World.ownsMap_made w P k ptrElem⟩ (fun x e => by omega)
theorem aMap.get (h : St W w (aMap P k m D :: L)) : ∃ n, w.ownsMap P k ptrElem m n D := by
  obtain ⟨own, h1, h2⟩ := h.get
  exact h1.2
theorem aMap.look (h : St W w (aMap P k m D :: L)) (K : Keyed P k) (ht : P.underlying T = some (.map k e)) (hz : (zeroValue e).run P w = .ok (.pointer none) w) {key : Value} {kl : Lit} (hkey : keyOf P k key = some kl) :
    ∃ v ps, (Instr.lookup T (.map (some m)) key false).run P w = .ok v w ∧ ptrElem v = some (D.atKey kl .nil, ps) := by
  obtain ⟨n, hn⟩ := aMap.get h
  exact hn.lookup K ht hz (zp := []) rfl hkey
theorem aMap.len (h : St W w (aMap P k m D :: L)) (ht : P.underlying T = some (.map k e)) (ty : TypeId) : (Builtin.len_ #[T] ty #[.map (some m)]).run P w = .ok (.int .i64 (size D)) w := by
  obtain ⟨n, hn⟩ := aMap.get h
  exact hn.len ht ty
theorem aMap.store (h : St W w (aMap P k m D :: L)) (hD : ∃ E, D = .map E ∧ E.length < maxLen) (K : Keyed P k) (ht : P.underlying T = some (.map k e)) {key : Value} {kl : Lit} (hkey : keyOf P k key = some kl) (g : Nat) :
    ∃ w', (Instr.mapUpdate T (.map (some m)) key (.pointer (some ⟨g, 0, none⟩))).run P w = .ok () w' ∧ St W w' (aMap P k m (D.put kl (.lit (.int .i64 (g : Int)))) :: L) ∧ w.mapTurned w' m := by
  obtain ⟨own, ⟨h1, n, h2⟩, ho, hback⟩ := h.focus
  obtain ⟨E, rfl, hE⟩ := hD
  obtain ⟨w', r1, r2, r3⟩ := (ownsMap_tight h2).store K ht hE hkey (val := .pointer (some ⟨g, 0, none⟩)) (d := .lit (.int .i64 (g : Int))) (ps := []) rfl
  exact ⟨w', r1, hback w' (aMap P k m _) (Ext.of_grown r3.grown (fun x hx => by injection hx with hx; rw [← hx]; exact h1)) ⟨.inl h1, _, r2⟩, r3⟩
theorem aMap.drop (h : St W w (aMap P k m D :: L)) (K : Keyed P k) (ht : P.underlying T = some (.map k e)) {key : Value} {kl : Lit} (hkey : keyOf P k key = some kl) (ty : TypeId) :
    ∃ w', (Builtin.delete_ #[T, k] ty #[.map (some m), key]).run P w = .ok (.tuple #[]) w' ∧ St W w' (aMap P k m (D.del kl) :: L) ∧ w.mapTurned w' m := by
  obtain ⟨own, ⟨h1, n, h2⟩, ho, hback⟩ := h.focus
  obtain ⟨w', r1, r2, r3⟩ := h2.drop K ht hkey ty
  exact ⟨w', r1, hback w' (aMap P k m _) (Ext.of_grown r3.grown (fun x hx => by injection hx with hx; rw [← hx]; exact h1)) ⟨.inl h1, _, r2⟩, r3⟩
theorem aMap.range (h : St W w (aMap P k m D :: L)) (K : Keyed P k) (ht : P.underlying T = some (.map k e)) :
    ∃ w', (Instr.range T (.map (some m))).run P w = .ok (.pointer (some ⟨w.heap.size, 0, none⟩)) w' ∧ St W w' (aRange P k m w.heap.size D (has D) (size D) :: L) := by
  obtain ⟨own, ⟨h1, n, h2⟩, ho, hback⟩ := h.focus
  obtain ⟨w', r1, r2, r3, r4⟩ := h2.range K ht
  exact ⟨w', r1, hback w' (aRange P k m w.heap.size D (has D) (size D)) (Ext.of_grown r3 (fun x hx => by cases hx)) ⟨.inl h1, .inr (Nat.le_refl _), n, r2⟩⟩
theorem aRange.done {r cnt : Nat} {left : Lit → Bool} (h : St W w (aRange P k m r D left cnt :: L)) : St W w (aMap P k m D :: L) :=
  h.conv fun own ⟨h1, h2, n, h3⟩ => ⟨h1, n, h3.owns⟩
theorem aRange.next {r cnt : Nat} {left : Lit → Bool} (h : St W w (aRange P k m r D left cnt :: L)) (K : Keyed P k) (ty : TypeId) :
    (cnt = 0 ∧ (∀ kl, left kl = false) ∧ (Instr.next (.pointer (some ⟨r, 0, none⟩)) false ty).run P w = .ok (.tuple #[.bool false]) w) ∨
    ∃ key v kl y w' cnt', keyOf P k key = some kl ∧ left kl = true ∧ ptrElem v = some y ∧ (∀ zd, D.atKey kl zd = y.1) ∧ (Instr.next (.pointer (some ⟨r, 0, none⟩)) false ty).run P w = .ok (.tuple #[.bool true, key, v]) w' ∧
      St W w' (aRange P k m r D (fun x => left x && !x.sameKey kl) cnt' :: L) ∧ cnt' < cnt ∧ (Instr.entry (.pointer (some ⟨r, 0, none⟩))).run P w' = .ok (.tuple #[key, v]) w' := by
  obtain ⟨own, ⟨h1, h2, n, h3⟩, ho, hback⟩ := h.focus
  rcases h3.next K ty with ⟨a, b, c⟩ | ⟨key, v, kl, y, w', cnt', k1, k2, k3, k4, k5, k6, k7, k8, k9, k10⟩
  · exact .inl ⟨a, b, c⟩
  · exact .inr ⟨key, v, kl, y, w', cnt', k1, k2, k3, k4, k5, hback w' (aRange P k m r D _ cnt') (Ext.of_grown k8 (fun x hx => by injection hx with hx; rw [← hx]; exact h2)) ⟨.inl h1, .inl h2, n, k6⟩, k7, k10⟩
theorem aRange.left {r cnt : Nat} {left : Lit → Bool} (h : St W w (aRange P k m r D left cnt :: L)) : w.rangeLeft m r = cnt := by
  obtain ⟨own, ⟨h1, h2, n, h3⟩, _⟩ := h.get
  exact h3.left_eq
end
end Go.Proofs.YtnpjfjgnhadmjaaGreatDoor

/- What a map of files reads as, and the list of files. No program here. -/
namespace Go.Proofs.YtnpjfjgnhadmjaaGreatDoor
open Go.RowKit Go.Maps
set_option linter.unusedVariables false

abbrev flsOf (E : List (Fl × Nat)) : List Fl := E.map Prod.fst
def entOf (x : Fl × Nat) : Lit × DataW Unit := (.string x.1.nm, .lit (.int .i64 (x.2 : Int)))
theorem dOf_eq (E : List (Fl × Nat)) : dOf E = .map (E.map entOf) := rfl
def dropE (n : List UInt8) (E : List (Fl × Nat)) : List (Fl × Nat) := match ixF n (flsOf E) with | some i => E.take i ++ E.drop (i + 1) | none => E
def insE (x : Fl × Nat) (E : List (Fl × Nat)) : List (Fl × Nat) := E.take (posF x.1.nm (flsOf E)) ++ x :: E.drop (posF x.1.nm (flsOf E))
theorem dropE_fls (n : List UInt8) (E : List (Fl × Nat)) : flsOf (dropE n E) = dropF n (flsOf E) := by
  unfold dropE dropF flsOf
  cases ixF n (E.map Prod.fst) <;> simp [List.map_take, List.map_drop]
theorem insE_fls (x : Fl × Nat) (E : List (Fl × Nat)) : flsOf (insE x E) = insF x.1 (flsOf E) := by
  unfold insE insF flsOf
  simp [List.map_take, List.map_drop]
theorem same_str (a b : List UInt8) : (Lit.string a).sameKey (.string b) = (a == b) := rfl
theorem dOf_at {E : List (Fl × Nat)} {n : List UInt8} {i : Nat} (h : ixF n (flsOf E) = some i) : ∃ x, E[i]? = some x ∧ x.1.nm = n ∧ ∀ z, (dOf E).atKey (.string n) z = .lit (.int .i64 (x.2 : Int)) := by
  induction E generalizing i with
  | nil => simp [ixF, flsOf] at h
  | cons x r ih =>
    simp only [flsOf, List.map_cons, ixF] at h
    split at h
    · rename_i e
      simp at h; subst h
      exact ⟨x, rfl, e, fun z => by simp [dOf, DataW.atKey, same_str, e]⟩
    · rename_i e
      cases hr : ixF n (r.map Prod.fst) with
      | none => rw [hr] at h; simp at h
      | some k =>
        rw [hr] at h; simp at h; subst h
        obtain ⟨y, h1, h2, h3⟩ := ih (i := k) hr
        refine ⟨y, by simpa using h1, h2, fun z => ?_⟩
        have := h3 z
        have e' : (x.1.nm == n) = false := by simpa using e
        simp only [dOf, DataW.atKey, List.map_cons, List.find?_cons, same_str, e'] at this ⊢
        exact this
theorem dOf_no {E : List (Fl × Nat)} {n : List UInt8} (h : ixF n (flsOf E) = none) (z : DataW Unit) : (dOf E).atKey (.string n) z = z := by
  have hf : (E.map entOf).find? (fun p => p.1.sameKey (.string n)) = none := by
    rw [List.find?_eq_none]
    intro p hp
    obtain ⟨x, hx, rfl⟩ := List.mem_map.1 hp
    have := ixF_none h x.1 (List.mem_map.2 ⟨x, hx, rfl⟩)
    simpa [entOf, same_str] using this
  rw [dOf_eq]
  simp only [DataW.atKey, hf]
theorem dOf_size (E : List (Fl × Nat)) : size (dOf E) = E.length := by simp [size, dOf]
theorem dOf_keys (E : List (Fl × Nat)) : strKeys (dOf E) = (flsOf E).map Fl.nm := by
  simp [strKeys, dOf, strOf, flsOf, Function.comp_def]
theorem filter_not {E : List (Fl × Nat)} {n : List UInt8} (h : ∀ f ∈ flsOf E, f.nm ≠ n) : (E.map entOf).filter (fun p => !p.1.sameKey (.string n)) = E.map entOf := by
  rw [List.filter_eq_self]
  intro p hp
  obtain ⟨x, hx, rfl⟩ := List.mem_map.1 hp
  have := h x.1 (List.mem_map.2 ⟨x, hx, rfl⟩)
  simpa [entOf, same_str] using this
theorem filter_drop {E : List (Fl × Nat)} (hs : (flsOf E).Pairwise (fun a b => bytesBefore a.nm b.nm = true)) (n : List UInt8) : (E.map entOf).filter (fun p => !p.1.sameKey (.string n)) = (dropE n E).map entOf := by
  cases hi : ixF n (flsOf E) with
  | none => rw [filter_not (ixF_none hi)]; unfold dropE; rw [hi]
  | some i =>
    have hd : dropE n E = E.take i ++ E.drop (i + 1) := by unfold dropE; rw [hi]
    have hn := dropF_not hs n
    rw [← dropE_fls] at hn
    obtain ⟨x, h1, h2, _⟩ := dOf_at hi
    have hil : i < E.length := by
      rcases Nat.lt_or_ge i E.length with h' | h'
      · exact h'
      · rw [List.getElem?_eq_none h'] at h1; cases h1
    have e : E = E.take i ++ x :: E.drop (i + 1) := by
      have : E[i] = x := by rw [List.getElem?_eq_getElem hil] at h1; exact Option.some.inj h1
      rw [← this, ← List.drop_eq_getElem_cons hil, List.take_append_drop]
    have k1 := filter_not (E := E.take i) (n := n) (fun f hf => hn f (by rw [hd]; simp only [flsOf, List.map_append] at hf ⊢; exact List.mem_append.2 (.inl hf)))
    have k2 := filter_not (E := E.drop (i + 1)) (n := n) (fun f hf => hn f (by rw [hd]; simp only [flsOf, List.map_append] at hf ⊢; exact List.mem_append.2 (.inr hf)))
    conv => lhs; rw [e]
    rw [List.map_append, List.map_cons, List.filter_append, List.filter_cons, k1, k2, hd, List.map_append]
    have : (entOf x).1.sameKey (.string n) = true := by simp [entOf, same_str, h2]
    simp [this]
theorem dOf_del {E : List (Fl × Nat)} (hs : (flsOf E).Pairwise (fun a b => bytesBefore a.nm b.nm = true)) (n : List UInt8) : (dOf E).del (.string n) = dOf (dropE n E) := by
  rw [dOf_eq, dOf_eq]
  simp only [DataW.del]
  rw [filter_drop hs]
theorem insert_ins (x : Fl × Nat) : ∀ (E : List (Fl × Nat)), (∀ f ∈ flsOf E, f.nm ≠ x.1.nm) → DataW.insert (entOf x) (E.map entOf) = (insE x E).map entOf
  | [], _ => by simp [DataW.insert, insE, flsOf, posF]
  | y :: r, h => by
    have hy := h y.1 (by simp [flsOf])
    have hb : (entOf x).1.before (entOf y).1 = bytesBefore x.1.nm y.1.nm := rfl
    simp only [List.map_cons, DataW.insert, hb]
    unfold insE
    simp only [flsOf, List.map_cons, posF]
    rcases bb_tri x.1.nm y.1.nm with k | k | k
    · have k2 : bytesBefore y.1.nm x.1.nm = false := by
        cases hk : bytesBefore y.1.nm x.1.nm with
        | false => rfl
        | true => have := bb_trans _ _ _ k hk; rw [bb_irr] at this; cases this
      rw [if_pos k, k2]
      simp
    · exact absurd k.symm hy
    · have k2 : bytesBefore x.1.nm y.1.nm = false := by
        cases hk : bytesBefore x.1.nm y.1.nm with
        | false => rfl
        | true => have := bb_trans _ _ _ k hk; rw [bb_irr] at this; cases this
      rw [if_neg (by rw [k2]; simp), k, insert_ins x r (fun f hf => h f (by simp only [flsOf, List.map_cons]; exact List.mem_cons_of_mem _ hf))]
      simp [insE, flsOf]
theorem dOf_put {E : List (Fl × Nat)} (hs : (flsOf E).Pairwise (fun a b => bytesBefore a.nm b.nm = true)) (f : Fl) (g : Nat) : (dOf E).put (.string f.nm) (.lit (.int .i64 (g : Int))) = dOf (insE (f, g) (dropE f.nm E)) := by
  rw [dOf_eq, dOf_eq]
  simp only [DataW.put]
  rw [filter_drop hs, ← insert_ins (f, g) (dropE f.nm E) (fun x hx => by rw [dropE_fls] at hx; exact dropF_not hs f.nm x hx)]
  rfl
theorem dropE_none {E : List (Fl × Nat)} {n : List UInt8} (h : ixF n (flsOf E) = none) : dropE n E = E := by unfold dropE; rw [h]
/-- an object for each file, by whatever -/
theorem insE_perm (x : Fl × Nat) (E : List (Fl × Nat)) : (insE x E).Perm (x :: E) := by
  unfold insE
  refine List.perm_middle.trans ?_
  rw [List.take_append_drop]
end Go.Proofs.YtnpjfjgnhadmjaaGreatDoor

/- A disk as an object. -/
namespace Go.Proofs.YtnpjfjgnhadmjaaGreatDoor
open Go.RowKit Go.Maps
set_option linter.unusedVariables false

/-- a file: its struct, its bytes in a row of their own -/
def aFile (x : Fl × Nat) : Asn where
  at_ own w := own x.2 ∧ ∃ v, Blk w x.2 113 #[v, .int .i64 (x.1.sure : Int)] ∧ w.ownsRow 0 5 1 v x.1.b.length (cellsB x.1.b) ∧ ∀ g, v.ownBlock = some g → own g
  ext h hx hd := by
    obtain ⟨h1, v, h2, h3, h4⟩ := h
    exact ⟨h1, v, h2.ext hx (hd _ h1), row_ext h3 hx (fun g hg => hd g (h4 g hg)), h4⟩
  bound h := by
    obtain ⟨h1, v, h2, h3, h4⟩ := h
    exact ⟨⟨h1, h2.lt⟩, v, h2, h3, fun g hg => ⟨h4 g hg, row_lt h3 hg⟩⟩
/-- a disk's parts: its struct, its map, its files -/
def dkL (p m : Nat) (d : Dk) (E : List (Fl × Nat)) : List Asn :=
  aBlk p 86 #[.int .i64 d.room, .map (some m), .bool d.off] :: aMap Tryz.prog 9 m (dOf E) :: E.map aFile
def DkE (d : Dk) (x : Nat × List (Fl × Nat)) : Prop := d.ok ∧ flsOf x.2 = d.R
/-- a disk -/
def aDisk (p : Nat) (d : Dk) : Asn := aSome (DkE d) (fun x => dkL p x.1 d x.2)
section
variable {W w : World} {p m : Nat} {d : Dk} {E : List (Fl × Nat)} {X : List Asn}
theorem aDisk.open_ (h : St W w (aDisk p d :: X)) : ∃ m E, DkE d (m, E) ∧ St W w (dkL p m d E ++ X) := by
  obtain ⟨x, h1, h2⟩ := h.open_
  exact ⟨x.1, x.2, h1, h2⟩
theorem aDisk.shut (hE : DkE d (m, E)) (h : St W w (dkL p m d E ++ X)) : St W w (aDisk p d :: X) := St.shut (a := (m, E)) hE h
/-- the i-th file ahead -/
theorem dkL.pick {i : Nat} {x : Fl × Nat} (h : St W w (dkL p m d E ++ X)) (hi : E[i]? = some x) :
    St W w (aFile x :: aBlk p 86 #[.int .i64 d.room, .map (some m), .bool d.off] :: aMap Tryz.prog 9 m (dOf E) :: ((E.take i ++ E.drop (i + 1)).map aFile ++ X)) := by
  refine h.perm ?_
  have h1 := (perm_pick (L := E.map aFile) (i := i) (a := aFile x) (by rw [List.getElem?_map, hi]; rfl)).append_right X
  rw [← List.map_take, ← List.map_drop, ← List.map_append] at h1
  unfold dkL
  simp only [List.cons_append] at h1 ⊢
  refine ((h1.cons _).cons _).trans ?_
  exact (List.Perm.cons _ (List.Perm.swap _ _ _)).trans (List.Perm.swap _ _ _)
theorem dkL.unpick {d' : Dk} {i : Nat} {x y : Fl × Nat} (hi : E[i]? = some x) (hd : d'.room = d.room ∧ d'.off = d.off) (hn : y.1.nm = x.1.nm) (hg : y.2 = x.2)
    (h : St W w (aFile y :: aBlk p 86 #[.int .i64 d.room, .map (some m), .bool d.off] :: aMap Tryz.prog 9 m (dOf E) :: ((E.take i ++ E.drop (i + 1)).map aFile ++ X))) :
    St W w (dkL p m d' (E.set i y) ++ X) := by
  have hil : i < E.length := by
    rcases Nat.lt_or_ge i E.length with h' | h'
    · exact h'
    · rw [List.getElem?_eq_none h'] at hi; cases hi
  have hdo : dOf (E.set i y) = dOf E := by
    unfold dOf
    rw [List.map_set]
    congr 1
    apply List.ext_getElem?
    intro j
    rw [List.getElem?_set]
    split
    · rename_i e
      subst e
      rw [if_pos (by simpa using hil), List.getElem?_map, hi]
      simp [hn, hg]
    · rfl
  have h2 := dkL.pick (p := p) (m := m) (d := d') (E := E.set i y) (X := X) (W := W) (w := w) (i := i) (x := y)
  have e1 : (E.set i y).take i = E.take i := List.take_set_of_le (Nat.le_refl _)
  have e2 : (E.set i y).drop (i + 1) = E.drop (i + 1) := by rw [List.drop_set_of_lt (by omega)]
  unfold dkL
  rw [hdo, hd.1, hd.2]
  refine h.perm ?_
  have h1 := (perm_pick (L := (E.set i y).map aFile) (i := i) (a := aFile y) (by rw [List.getElem?_map, List.getElem?_set_self hil]; rfl)).append_right X
  rw [← List.map_take, ← List.map_drop, ← List.map_append, e1, e2] at h1
  simp only [List.cons_append] at h1 ⊢
  refine (List.Perm.trans ?_ ((h1.symm.cons _).cons _))
  exact (List.Perm.swap _ _ _).trans (List.Perm.cons _ (List.Perm.swap _ _ _))
theorem dkL.blk (h : St W w (dkL p m d E ++ X)) : Blk w p 86 #[.int .i64 d.room, .map (some m), .bool d.off] := aBlk.get h
theorem dkL.map (h : St W w (dkL p m d E ++ X)) : St W w (aMap Tryz.prog 9 m (dOf E) :: aBlk p 86 #[.int .i64 d.room, .map (some m), .bool d.off] :: (E.map aFile ++ X)) := St.swap h
theorem aFile.get {x : Fl × Nat} (h : St W w (aFile x :: X)) : ∃ v, Blk w x.2 113 #[v, .int .i64 (x.1.sure : Int)] ∧ w.ownsRow 0 5 1 v x.1.b.length (cellsB x.1.b) := by
  obtain ⟨own, ⟨h1, v, h2, h3, h4⟩, _⟩ := h.get
  exact ⟨v, h2, h3⟩
/-- a file is a struct and a row, apart -/
theorem aFile.open_ {x : Fl × Nat} (h : St W w (aFile x :: X)) : ∃ v, St W w (aBlk x.2 113 #[v, .int .i64 (x.1.sure : Int)] :: aRow 5 1 v x.1.b.length (cellsB x.1.b) :: X) := by
  obtain ⟨hb, own, h1, ⟨k1, v, k2, k3, k4⟩, h3⟩ := h
  refine ⟨v, hb, fun b => b = x.2, fun b hb => by rw [hb]; exact h1 _ k1, ⟨rfl, k2⟩, fun b => own b ∧ b ≠ x.2, fun b hb => ⟨⟨(h1 b hb.1).1, hb.2⟩, (h1 b hb.1).2⟩, ⟨k3, fun g hg => ⟨k4 g hg, fun e => row_ne k3 k2 (by decide) (by rw [hg, e])⟩⟩, h3.mono fun b _ hb => ⟨⟨hb.1, fun e => hb.2 (by rw [e]; exact k1)⟩, fun e => hb.2 e.1⟩⟩
theorem aFile.shut {x : Fl × Nat} {v : Value} (h : St W w (aBlk x.2 113 #[v, .int .i64 (x.1.sure : Int)] :: aRow 5 1 v x.1.b.length (cellsB x.1.b) :: X)) : St W w (aFile x :: X) := by
  obtain ⟨hb, o1, h1, ⟨k1, k2⟩, o2, h2, ⟨k3, k4⟩, h3⟩ := h
  refine ⟨hb, fun b => o1 b ∨ o2 b, fun b hb => hb.elim (fun e => h1 b e) (fun e => ⟨(h2 b e).1.1, (h2 b e).2⟩), ⟨.inl k1, v, k2, k3, fun g hg => .inr (k4 g hg)⟩, h3.mono fun b _ hb => ⟨hb.1.1, fun e => e.elim hb.1.2 hb.2⟩⟩
end
end Go.Proofs.YtnpjfjgnhadmjaaGreatDoor

/- The disk's methods that only read. -/
namespace Go.Proofs.YtnpjfjgnhadmjaaGreatDoor
open Go.RowKit Go.Maps Go.Deep
set_option linter.unusedVariables false

theorem strLaw : Keyed Tryz.prog 9 := string_keyed Tryz.underlying9
theorem keyN {n : List UInt8} (hn : n.length ≤ maxLen) : keyOf Tryz.prog 9 (.string (bstr n)) = some (.string n) := by
  have := Go.WideMaps.keyOf_string_mk (P := Tryz.prog) (k := 9) Tryz.underlying9 (s := bstr n) (by simpa [bstr, ByteArray.size] using hn)
  simpa [bstr] using this
theorem zeroPF (w : World) : (zeroValue 111).run Tryz.prog w = .ok (.pointer none) w := by kernel_rfl
section
variable {W w : World} {p m : Nat} {d : Dk} {E : List (Fl × Nat)} {X : List Asn} {n : List UInt8}
theorem none_c {r o : Value} (h : Blk w p 86 #[r, .map (some m), o]) : Calls Tryz.prog 72 #[.pointer (some ⟨p, 0, none⟩)] w fun e w' => e = .returned (.bool false) ∧ w = w' := by
  have c1 := h.cell 1
  simp at c1
  have q1 : ∀ w, (binOp .eql 84 (.map (some m)) (.map none)).run Tryz.prog w = .ok (.bool false) w := fun w => by kernel_rfl
  clear h
  go_enter Tryz.func72, Tryz.ntmps72
  go_wp2
  go_ret
  exact ⟨rfl, rfl⟩
theorem can_c {r : Value} {o : Bool} (h : Blk w p 86 #[r, .map (some m), .bool o]) : Calls Tryz.prog 76 #[.pointer (some ⟨p, 0, none⟩)] w fun e w' => e = .returned (.int .i64 (if o then 32 else 0)) ∧ w = w' := by
  have c2 := h.cell 2
  simp at c2
  have HN := Lib.hid (none_c h)
  clear h
  cases o
  all_goals
    go_enter Tryz.func76, Tryz.ntmps76
    go_wp2_with (first | (go_at_call 72; (with_reducible refine HN.out.mono ?_); rintro e w1 ⟨rfl, rfl⟩))
    go_ret
    exact ⟨rfl, rfl⟩
theorem off_c {r : Value} {o : Bool} (h : Blk w p 86 #[r, .map (some m), .bool o]) : Calls Tryz.prog 51 #[.pointer (some ⟨p, 0, none⟩)] w fun e w' => e = .returned (.bool o) ∧ w = w' := by
  have c2 := h.cell 2
  simp at c2
  have HN := Lib.hid (none_c h)
  clear h
  go_enter Tryz.func51, Tryz.ntmps51
  go_wp2_with (first | (go_at_call 72; (with_reducible refine HN.out.mono ?_); rintro e w1 ⟨rfl, rfl⟩))
  go_ret
  exact ⟨rfl, rfl⟩
theorem look_no (h : St W w (dkL p m d E ++ X)) (hn : n.length ≤ maxLen) (hi : ixF n (flsOf E) = none) : (Instr.lookup 84 (.map (some m)) (.string (bstr n)) false).run Tryz.prog w = .ok (.pointer none) w := by
  obtain ⟨v, ps, h1, h2⟩ := aMap.look h.swap strLaw Tryz.underlying84 (zeroPF w) (keyN hn)
  rw [dOf_no hi] at h2
  rw [h1]
  unfold ptrElem at h2
  split at h2
  · rfl
  · cases h2
  · cases h2
theorem look_yes (h : St W w (dkL p m d E ++ X)) (hn : n.length ≤ maxLen) {i : Nat} {x : Fl × Nat} (hi : ixF n (flsOf E) = some i) (hx : E[i]? = some x) : (Instr.lookup 84 (.map (some m)) (.string (bstr n)) false).run Tryz.prog w = .ok (.pointer (some ⟨x.2, 0, none⟩)) w := by
  obtain ⟨v, ps, h1, h2⟩ := aMap.look h.swap strLaw Tryz.underlying84 (zeroPF w) (keyN hn)
  obtain ⟨y, k1, k2, k3⟩ := dOf_at hi
  rw [hx] at k1
  have k1 := Option.some.inj k1
  rw [k3, ← k1] at h2
  have e := ptrElem_inv (g := x.2) h2
  rw [h1, e]
theorem may_off (hE : DkE d (m, E)) {er : Int} (hm : mayF d n = (none, er)) (ho : d.off = false) : ixF n (flsOf E) = none ∧ er = 4 := by
  unfold mayF at hm
  rw [if_neg (by rw [ho]; simp)] at hm
  rw [hE.2]
  cases hi : ixF n d.R with
  | none => rw [hi] at hm; simp at hm; exact ⟨rfl, hm.symm⟩
  | some k => rw [hi] at hm; simp at hm
theorem may_on (hE : DkE d (m, E)) {i : Nat} {er : Int} (hm : mayF d n = (some i, er)) : ixF n (flsOf E) = some i ∧ ∃ x, E[i]? = some x ∧ x.1.nm = n ∧ d.R[i]? = some x.1 := by
  unfold mayF at hm
  split at hm
  · simp at hm
  · cases hi : ixF n d.R with
    | none => rw [hi] at hm; simp at hm
    | some k =>
      rw [hi] at hm
      simp at hm
      obtain ⟨rfl, _⟩ := hm
      have hi' : ixF n (flsOf E) = some k := by rw [hE.2]; exact hi
      obtain ⟨x, h1, h2, _⟩ := dOf_at hi'
      refine ⟨hi', x, h1, h2, ?_⟩
      rw [← hE.2]
      simp [flsOf, h1]
theorem find_no (h : St W w (dkL p m d E ++ X)) (hE : DkE d (m, E)) (hn : n.length ≤ maxLen) {er : Int} (hm : mayF d n = (none, er)) :
    Calls Tryz.prog 73 #[.pointer (some ⟨p, 0, none⟩), .string (bstr n)] w fun e w' => e = .returned (.tuple #[.pointer none, .int .i64 er]) ∧ w = w' := by
  have hb := dkL.blk h
  have c1 := hb.cell 1
  simp at c1
  have HC := Lib.hid (can_c hb)
  cases ho : d.off with
  | true =>
    rw [ho] at HC
    have he : er = 32 := by unfold mayF at hm; rw [ho] at hm; simp at hm; exact hm.symm
    subst he
    clear h hE hn hm hb ho
    go_enter Tryz.func73, Tryz.ntmps73
    go_wp2_with (first | (go_at_call 76; (with_reducible refine HC.out.mono ?_); rintro e w1 ⟨rfl, rfl⟩))
    go_ret2
    exact ⟨rfl, rfl⟩
  | false =>
    rw [ho] at HC
    obtain ⟨hi, rfl⟩ := may_off hE hm ho
    have hl := look_no h hn hi
    clear h hE hn hm hb ho hi
    go_enter Tryz.func73, Tryz.ntmps73
    go_wp2_with (first | (go_at_call 76; (with_reducible refine HC.out.mono ?_); rintro e w1 ⟨rfl, rfl⟩))
    go_ret2
    exact ⟨rfl, rfl⟩
theorem find_yes (h : St W w (dkL p m d E ++ X)) (hE : DkE d (m, E)) (hn : n.length ≤ maxLen) {i : Nat} {er : Int} {x : Fl × Nat} (hm : mayF d n = (some i, er)) (hx : E[i]? = some x) :
    Calls Tryz.prog 73 #[.pointer (some ⟨p, 0, none⟩), .string (bstr n)] w fun e w' => e = .returned (.tuple #[.pointer (some ⟨x.2, 0, none⟩), .int .i64 0]) ∧ w = w' := by
  have hb := dkL.blk h
  have c1 := hb.cell 1
  simp at c1
  have HC := Lib.hid (can_c hb)
  rw [(may_some hm).2.1] at HC
  have hl := look_yes h hn (may_on hE hm).1 hx
  generalize x.2 = g at *
  clear h hE hn hm hb hx
  go_enter Tryz.func73, Tryz.ntmps73
  go_wp2_with (first | (go_at_call 76; (with_reducible refine HC.out.mono ?_); rintro e w1 ⟨rfl, rfl⟩))
  go_ret2
  exact ⟨rfl, rfl⟩
theorem bare_c (w : World) (k : Int) (hk : -9223372036854775808 ≤ k ∧ k ≤ 9223372036854775807) : Calls Tryz.prog 77 #[.int .i64 k] w fun e w' => e = .returned (.int .i64 (bareF k)) ∧ w = w' := by
  by_cases h1 : k = -9223372036854775808
  · subst h1
    go_enter Tryz.func77, Tryz.ntmps77
    go_wp2
    go_ret
    exact ⟨rfl, rfl⟩
  · have q1 : (k == -9223372036854775808) = false := by simpa using h1
    by_cases h2 : k < 0
    · have E := Lib.hid (show -k = bareF k by unfold bareF; rw [if_neg h1, if_pos h2])
      have hk2 : 0 ≤ -k ∧ -k ≤ 9223372036854775807 := by omega
      obtain ⟨k2, k3⟩ := hk2
      have q2 : IntKind.i64.wrap (-k) = -k := by simp [IntKind.wrap, IntKind.signed, IntKind.bits]; omega
      clear hk h1
      go_enter Tryz.func77, Tryz.ntmps77
      go_wp2
      go_ret
      exact ⟨retI E.out, rfl⟩
    · have E := Lib.hid (show k = bareF k by unfold bareF; rw [if_neg h1, if_neg h2])
      clear hk h1
      go_enter Tryz.func77, Tryz.ntmps77
      go_wp2
      go_ret
      exact ⟨retI E.out, rfl⟩
end
end Go.Proofs.YtnpjfjgnhadmjaaGreatDoor

/- The loop over a disk's files; how many bytes there are; a file's bytes. -/
namespace Go.Proofs.YtnpjfjgnhadmjaaGreatDoor
open Go.RowKit Go.Maps Go.Deep
set_option linter.unusedVariables false

set_option maxHeartbeats 400000 in
theorem sclone_c {w : World} {v : Value} {bs : List UInt8} (h : Bs w v bs) : Calls Tryz.prog 32 #[v] w (ClonePost w bs) := by
  rcases h.isNil with ⟨rfl, rfl⟩ | ⟨ad, cap, rfl⟩
  · have q : ∀ w, (binOp .eql 22 (.slice none 0 0) (.slice none 0 0)).run Tryz.prog w = .ok (.bool true) w := fun w => by kernel_rfl
    have E := Lib.hid (show ClonePost w [] (.returned (.slice none 0 0)) w from ⟨_, rfl, ownNil w _ _ _, Below.refl _ _⟩)
    clear h
    go_enter Tryz.func32, Tryz.ntmps32
    go_wp2
    go_ret
    exact E.out
  · have q : ∀ w, (binOp .eql 22 (.slice (some ad) bs.length cap) (.slice none 0 0)).run Tryz.prog w = .ok (.bool false) w := fun w => by kernel_rfl
    have hb : B w (w.alloc (.cells #[] 5)) := B.alloc' _ _
    have ho : (w.alloc (.cells #[] 5)).ownsRow w.heap.size 5 1 (.slice (some ⟨w.heap.size, 0, none⟩) 0 0) ([] : List UInt8).length (cellsB []) := ⟨rfl, .inr ⟨_, 0, #[], rfl, Nat.le_refl _, heap_alloc_new w _, Nat.le_refl _, by unfold maxLen; omega, rfl, rfl⟩⟩
    obtain ⟨v', w', hrun, h2, h3, h4⟩ := append_Bs (P := Tryz.prog) (t := 22) (ty := 47) Tryz.underlying22 info5 ho (h.later hb) (by have := h.len; simpa using this) (by simp)
    have E := Lib.hid (show ClonePost w bs (.returned v') w' from ⟨_, rfl, h2, hb.grown h3 (fun k hk => by simp [Value.ownBlock] at hk; omega)⟩)
    clear h ho h2 h3 h4 hb
    go_enter Tryz.func32, Tryz.ntmps32
    go_wp2_with (at_builtin; refine wpList_append_run rfl (.tmp 5) (.tmp 6) 22 rfl rfl rfl hrun ?_)
    go_ret
    exact E.out

theorem has_dOf {E : List (Fl × Nat)} {kl : Lit} (h : has (dOf E) kl = true) : ∃ (i : Nat) (x : Fl × Nat), E[i]? = some x ∧ kl = .string x.1.nm := by
  obtain ⟨p, hp, hk⟩ := List.any_eq_true.1 (show (E.map entOf).any (fun p => p.1.sameKey kl) = true from h)
  obtain ⟨x, hx, rfl⟩ := List.mem_map.1 hp
  obtain ⟨i, hi, e⟩ := List.mem_iff_getElem.1 hx
  exact ⟨i, x, by rw [List.getElem?_eq_getElem hi, e], (WideAt.sameKey_eq hk).symm⟩
theorem has_mem {E : List (Fl × Nat)} {x : Fl × Nat} (h : x ∈ E) : has (dOf E) (.string x.1.nm) = true :=
  List.any_eq_true.2 ⟨entOf x, List.mem_map.2 ⟨x, h, rfl⟩, by simp [entOf, same_str]⟩
theorem ix_self {E : List (Fl × Nat)} (hs : (flsOf E).Pairwise (fun a b => bytesBefore a.nm b.nm = true)) {i : Nat} {x : Fl × Nat} (h : E[i]? = some x) : ixF x.1.nm (flsOf E) = some i := by
  cases hi : ixF x.1.nm (flsOf E) with
  | none => exact absurd rfl (ixF_none hi x.1 (List.mem_map.2 ⟨x, List.mem_of_getElem? h, rfl⟩))
  | some k =>
    obtain ⟨f, h1, h2, h3⟩ := ixF_some hi
    have hf : (flsOf E)[i]? = some x.1 := by simp [flsOf, h]
    rcases Nat.lt_trichotomy i k with hk | hk | hk
    · exact absurd rfl (h3 i hk x.1 hf)
    · rw [hk]
    · have hl1 : k < (flsOf E).length := by
        rcases Nat.lt_or_ge k (flsOf E).length with h' | h'
        · exact h'
        · rw [List.getElem?_eq_none h'] at h1; cases h1
      have hl2 : i < (flsOf E).length := by
        rcases Nat.lt_or_ge i (flsOf E).length with h' | h'
        · exact h'
        · rw [List.getElem?_eq_none h'] at hf; cases hf
      have := (List.pairwise_iff_getElem.1 hs) k i hl1 hl2 hk
      rw [List.getElem?_eq_getElem hl1] at h1
      rw [List.getElem?_eq_getElem hl2] at hf
      rw [Option.some.inj h1, Option.some.inj hf, h2, bb_irr] at this
      cases this
/-- a block known as an object -/
def aObj (r : Nat) (o : Obj) : Asn where
  at_ own w := own r ∧ w.heap[r]? = some o
  ext h hx hd := ⟨h.1, (hx.block r (Array.getElem?_eq_some_iff.1 h.2).1 (hd _ h.1)).trans h.2⟩
  bound h := ⟨⟨h.1, (Array.getElem?_eq_some_iff.1 h.2).1⟩, h.2⟩
/-- what an iterator over an old map says -/
def Rng (W : World) (m r : Nat) (E : List (Fl × Nat)) (left : Lit → Bool) (cnt : Nat) (it : Obj) : Prop :=
  ∀ w' : World, w'.heap[m]? = W.heap[m]? → w'.heap[r]? = some it → ∃ n, w'.ranges Tryz.prog 9 ptrElem m r n (dOf E) left cnt
section
variable {W w : World} {ops : Array Oper} {rest : List Oper} {o : Oper} {a : Act} {Q : Exit → Act → World → Prop} {L : List Asn} {m r cnt : Nat} {E : List (Fl × Nat)} {left : Lit → Bool} {it : Obj}
theorem aObj.get (h : St W w (aObj r it :: L)) : w.heap[r]? = some it := by
  obtain ⟨own, h1, _⟩ := h.get
  exact h1.2
theorem Rng.of {w1 : World} {n : Nat} (h : w1.ranges Tryz.prog 9 ptrElem m r n (dOf E) left cnt) (hm : w1.heap[m]? = W.heap[m]?) : ∃ it, w1.heap[r]? = some it ∧ Rng W m r E left cnt it := by
  obtain ⟨es, clock, since, seen, c0, hb, F, hs, hD, hr, rest⟩ := h
  exact ⟨_, hr, fun w' h1 h2 => ⟨n, es, clock, since, seen, c0, by rw [h1, ← hm]; exact hb, F, hs, hD, h2, rest⟩⟩
theorem Rng.left_ (hR : Rng W m r E left cnt it) (hm : m < W.heap.size) (h : St W w (aObj r it :: L)) : w.rangeLeft m r = cnt := by
  obtain ⟨n, hn⟩ := hR w (h.b.block m hm) (aObj.get h)
  exact hn.left_eq
theorem wpList_range_R (hg : o.guard = none) (x : Operand) (hop : o.op = Op.range 84 x) {n : Nat} (hmap : W.ownsMap Tryz.prog 9 ptrElem m n (dOf E)) (hx : a.eval x = .map (some m)) (h : St W w L)
    (hK : ∀ w' it, Rng W m w.heap.size E (has (dOf E)) (size (dOf E)) it → St W w' (aObj w.heap.size it :: L) → wpList Tryz.prog ops Q rest (a.put o.dst (.pointer (some ⟨w.heap.size, 0, none⟩))) w') :
    wpList Tryz.prog ops Q (o :: rest) a w := by
  refine wpList_plain hg fun K' hK' => ?_
  have hm := hmap.lt
  have hmap' : w.ownsMap Tryz.prog 9 ptrElem m n (dOf E) := by
    obtain ⟨es, clock, hb, r⟩ := hmap
    exact ⟨es, clock, (h.b.block m hm).trans hb, r⟩
  obtain ⟨w', hrun, r1, r2, r3⟩ := hmap'.range strLaw Tryz.underlying84
  have hB : B w w' := (Ext.of_grown (own := fun _ => False) r2 (fun g hg => by cases hg)).to_B (fun _ _ => id)
  obtain ⟨it, k1, k2⟩ := Rng.of (W := W) r1 ((hB.block m (Nat.lt_of_lt_of_le hm h.b.size)).trans (h.b.block m hm))
  unfold Oper.wp
  simp [execOp, hop, hx, hrun, Result.andThen]
  exact hK' _ _ (hK w' it k2 (h.add hB (A := aObj w.heap.size it) (own := fun b => b = w.heap.size) ⟨rfl, k1⟩ (fun x e => by omega)))
/-- the loop's step over a disk's map -/
theorem wpList_next_R (hg : o.guard = none) (x0 : Operand) (hop : o.op = Op.next x0 false) (hs : (flsOf E).Pairwise (fun a b => bytesBefore a.nm b.nm = true)) (hle : ∀ kl, left kl = true → has (dOf E) kl = true) (hm : m < W.heap.size)
    (hit : a.eval x0 = .pointer (some ⟨r, 0, none⟩)) (hR : Rng W m r E left cnt it) (h : St W w (aObj r it :: L))
    (hDone : (∀ kl, left kl = false) → wpList Tryz.prog ops Q rest (a.put o.dst (.tuple #[.bool false])) w)
    (hMore : ∀ (i : Nat) (x : Fl × Nat) (w' : World) (cnt' : Nat) (it' : Obj), E[i]? = some x → left (.string x.1.nm) = true → Rng W m r E (fun z => left z && !z.sameKey (.string x.1.nm)) cnt' it' → St W w' (aObj r it' :: L) → cnt' < cnt →
      (Instr.entry (.pointer (some ⟨r, 0, none⟩))).run Tryz.prog w' = .ok (.tuple #[.string (bstr x.1.nm), .pointer (some ⟨x.2, 0, none⟩)]) w' →
      wpList Tryz.prog ops Q rest (a.put o.dst (.tuple #[.bool true, .string (bstr x.1.nm), .pointer (some ⟨x.2, 0, none⟩)])) w') :
    wpList Tryz.prog ops Q (o :: rest) a w := by
  refine wpList_plain hg fun K' hK' => ?_
  unfold Oper.wp
  obtain ⟨n, hn⟩ := hR w (h.b.block m hm) (aObj.get h)
  rcases hn.next strLaw o.type with ⟨h0, hl, hrun⟩ | ⟨key, v, kl, y, w', cnt', hkey, hlk, hv, hat, hrun, hrg, hlt, hgr, hsz, hen⟩
  · simp [execOp, hop, hit, hrun, Result.andThen]
    exact hK' _ _ (hDone hl)
  · obtain ⟨i, x, hx, rfl⟩ := has_dOf (hle kl hlk)
    obtain ⟨k, e1, e2, _⟩ := Maps.keyOf_str Tryz.underlying9 hkey
    have e2 := (Lit.string.inj e2).symm
    subst e2
    obtain ⟨z, k1, _, k3⟩ := dOf_at (ix_self hs hx)
    rw [hx] at k1
    have k1 := Option.some.inj k1
    have e3 : y.1 = .lit (.int .i64 (x.2 : Int)) := by rw [← hat .nil, k3, ← k1]
    have e4 : v = .pointer (some ⟨x.2, 0, none⟩) := ptrElem_inv (g := x.2) (ps := y.2) (by rw [hv, ← e3])
    subst e4
    have e5 : key = .string (bstr x.1.nm) := e1
    subst e5
    obtain ⟨own, ⟨h1, h2⟩, ho, hback⟩ := h.focus
    have hne : m ≠ r := by have := (ho r h1).1; omega
    obtain ⟨it', k4, k5⟩ := Rng.of (W := W) hrg ((hgr.block m (Nat.lt_of_lt_of_le hm h.b.size) (fun e => hne (by injection e))).trans (h.b.block m hm))
    have hS := hback w' (aObj r it') (Ext.of_grown hgr (fun g hg => by injection hg with hg; rw [← hg]; exact h1)) ⟨.inl h1, k4⟩
    simp [execOp, hop, hit, hrun, Result.andThen]
    exact hK' _ _ (hMore i x w' cnt' it' hx hlk k5 hS hlt hen)
end
/-- how many bytes the files have that came -/
def goneF (left : Lit → Bool) (E : List (Fl × Nat)) : Nat := (E.map (fun x => cond (left (.string x.1.nm)) 0 x.1.b.length)).sum
theorem gone_start (E : List (Fl × Nat)) : goneF (has (dOf E)) E = 0 := by
  have h : ∀ E' : List (Fl × Nat), (∀ x ∈ E', x ∈ E) → (E'.map (fun x => cond (has (dOf E) (.string x.1.nm)) 0 x.1.b.length)).sum = 0 := by
    intro E'
    induction E' with
    | nil => intro _; rfl
    | cons x r ih =>
      intro hx
      rw [List.map_cons, List.sum_cons, ih (fun y hy => hx y (List.mem_cons_of_mem _ hy)), has_mem (hx x (by simp))]; rfl
  exact h E (fun x hx => hx)
theorem gone_end {left : Lit → Bool} (h : ∀ kl, left kl = false) (E : List (Fl × Nat)) : goneF left E = usedF (flsOf E) := by
  unfold goneF usedF flsOf
  rw [List.map_map]
  congr 1
  apply List.map_congr_left
  intro x _
  simp [h]
theorem gone_step {left : Lit → Bool} : ∀ {E : List (Fl × Nat)} {i : Nat} {x : Fl × Nat}, (flsOf E).Pairwise (fun a b => bytesBefore a.nm b.nm = true) → E[i]? = some x → left (.string x.1.nm) = true → goneF (fun z => left z && !z.sameKey (.string x.1.nm)) E = goneF left E + x.1.b.length
  | [], i, x, _, h, _ => by simp at h
  | y :: r, i, x, hs, h, hl => by
    unfold goneF
    simp only [List.map_cons, List.sum_cons, same_str]
    simp only [flsOf, List.map_cons, List.pairwise_cons] at hs
    cases i with
    | zero =>
      simp at h
      subst h
      have e : r.map (fun z => cond (left (.string z.1.nm) && !(z.1.nm == y.1.nm)) 0 z.1.b.length) = r.map (fun z => cond (left (.string z.1.nm)) 0 z.1.b.length) := by
        apply List.map_congr_left
        intro z hz
        have : (z.1.nm == y.1.nm) = false := by
          rw [beq_eq_false_iff_ne]
          intro e
          have := hs.1 z.1 (List.mem_map.2 ⟨z, hz, rfl⟩)
          rw [e, bb_irr] at this; cases this
        rw [this]; simp
      rw [e]
      simp [hl]; omega
    | succ i =>
      have hx : r[i]? = some x := by simpa using h
      have ih := gone_step (left := left) hs.2 hx hl
      unfold goneF at ih
      simp only [same_str] at ih
      rw [ih]
      have : (y.1.nm == x.1.nm) = false := by
        rw [beq_eq_false_iff_ne]
        intro e
        have := hs.1 x.1 (List.mem_map.2 ⟨x, List.mem_of_getElem? hx, rfl⟩)
        rw [e, bb_irr] at this; cases this
      rw [this]; simp; omega
theorem gone_le {left : Lit → Bool} : ∀ E : List (Fl × Nat), goneF left E ≤ usedF (flsOf E)
  | [] => Nat.le_refl _
  | x :: r => by
    have := gone_le (left := left) r
    unfold goneF usedF flsOf at this ⊢
    simp only [List.map_cons, List.sum_cons]
    cases left (.string x.1.nm) <;> simp only [cond_true, cond_false] <;> omega
section
variable {W w : World} {p m : Nat} {d : Dk} {E : List (Fl × Nat)} {X : List Asn} {n : List UInt8}
theorem aFile.cells {x : Fl × Nat} (h : St W w (aFile x :: X)) : ∃ A c, w.cell? ⟨x.2, 0, none⟩ = some (.slice A x.1.b.length c) ∧ w.cell? ⟨x.2, 1, none⟩ = some (.int .i64 (x.1.sure : Int)) := by
  obtain ⟨v, h1, h2⟩ := aFile.get h
  obtain ⟨A, c, rfl⟩ := own_slice h2
  have c0 := h1.cell 0
  have c1 := h1.cell 1
  simp at c0 c1
  exact ⟨A, c, c0, c1⟩
theorem rest.pick {L : List Asn} {i : Nat} {x : Fl × Nat} (h : St W w (L ++ (E.map aFile ++ X))) (hx : E[i]? = some x) : ∃ Y, St W w (aFile x :: Y) := by
  refine ⟨L ++ ((E.take i ++ E.drop (i + 1)).map aFile ++ X), h.perm ?_⟩
  have h1 := (perm_pick (L := E.map aFile) (i := i) (a := aFile x) (by rw [List.getElem?_map, hx]; rfl)).append_right X
  rw [← List.map_take, ← List.map_drop, ← List.map_append] at h1
  simp only [List.cons_append] at h1
  exact (h1.append_left L).trans List.perm_middle
set_option maxRecDepth 20000 in
set_option maxHeartbeats 2000000 in
theorem used_c (h : St W w (dkL p m d E ++ X)) (hE : DkE d (m, E)) : Calls Tryz.prog 33 #[.pointer (some ⟨p, 0, none⟩)] w fun e w' => e = .returned (.int .i64 (usedF d.R : Int)) ∧ B w w' := by
  have hb := dkL.blk h
  have c1 := hb.cell 1
  simp at c1
  have HN := Lib.hid (none_c hb)
  have hs := hE.1.rise
  rw [← hE.2] at hs
  have HS := Lib.hid hs
  have hu : usedF (flsOf E) ≤ 4194304 := by rw [hE.2]; have := hE.1.used; have := hE.1.room; omega
  have HU := Lib.hid hu
  rw [← hE.2]
  obtain ⟨n0, hmap⟩ := aMap.get h.swap
  have HM := Lib.hid hmap
  have HML := Lib.hid hmap.lt
  have HF := Lib.hid (show ∀ (w' : World) (i : Nat) (x : Fl × Nat), B w w' → E[i]? = some x → ∃ A c, w'.cell? ⟨x.2, 0, none⟩ = some (.slice A x.1.b.length c) from fun w' i x hb hx => by
    obtain ⟨Y, hY⟩ := rest.pick (L := [_, _]) h hx
    obtain ⟨A, c, k1, _⟩ := aFile.cells hY
    exact ⟨A, c, hb.cell k1⟩)
  clear h hE hb hmap hs
  go_enter Tryz.func33, Tryz.ntmps33
  go_wp2_with (first
    | (go_at_call 72; (with_reducible refine HN.out.mono ?_); rintro e w1 ⟨rfl, rfl⟩)
    | (at_range; refine wpList_range_R rfl (.tmp 11) rfl HM.out rfl (St.nil _) ?_; intro w1 it1 hR hS; have HR1 := Lib.hid hR; have HS1 := Lib.hid hS; clear hR hS))
  go_frame
  go_loopw [3] (fun s wr => ∃ (left : Lit → Bool) (cnt : Nat) (it : Obj), s = .int .i64 (goneF left E : Int) ∧ Hid (∀ kl, left kl = true → has (dOf E) kl = true) ∧ Hid (Rng w m w.heap.size E left cnt it) ∧ Hid (St w wr [aObj w.heap.size it])) (fun _ wr => wr.rangeLeft m w.heap.size)
  case atStart => exact ⟨_, _, it1, by rw [gone_start]; rfl, fun kl h => h, HR1.out, HS1.out⟩
  case round =>
    obtain ⟨left, cnt, it, rfl, HL, HR, HW⟩ := hrel
    have HG := Lib.hid (gone_le (left := left) E)
    have hg : (goneF left E : Int) ≤ 4194304 := by have := HG.out; omega
    have HLe := Lib.hid (HR.out.left_ HML.out HW.out)
    clear HR1 HS1
    go_wp2_with (first
      | (at_next; refine wpList_next_R rfl (.tmp 12) rfl HS.out HL.out HML.out rfl HR.out HW.out ?_ ?_))
    · intro hl
      have E1 := Lib.hid (gone_end hl E)
      go_wp2
      go_ret
      exact ⟨retI (by rw [E1.out]), HW.out.b⟩
    · intro i y g w2 cnt2 it2 hx hlx hR2 hS2 hlt hen
      have HX := Lib.hid hx
      obtain ⟨A, c, hc⟩ := HF.out w2 i (y, g) hS2.b hx
      have E1 := Lib.hid (gone_step HS.out hx hlx)
      have HR2 := Lib.hid hR2
      have HS2 := Lib.hid hS2
      have HLT := Lib.hid hlt
      have HG2 := Lib.hid (gone_le (left := fun z => left z && !z.sameKey (.string y.nm)) E)
      have hg2 : (goneF left E : Int) + (y.b.length : Int) ≤ 4194304 := by have := HG2.out; rw [E1.out] at this; simp only at this; omega
      simp only at hc hg2 hen
      clear hx hlx hR2 hS2 hlt
      go_wp2
      go_roundw
      case rel => exact ⟨_, cnt2, it2, by rw [E1.out]; go_num, fun kl hk => HL.out kl (by simp at hk; exact hk.1), HR2.out, HS2.out⟩
      case measure => rw [HR2.out.left_ HML.out HS2.out, HLe.out]; exact HLT.out
end
end Go.Proofs.YtnpjfjgnhadmjaaGreatDoor

/- Room, Synced, Get, Sync, Restart, Append of a disk. -/
namespace Go.Proofs.YtnpjfjgnhadmjaaGreatDoor
open Go.RowKit Go.Maps Go.Deep
set_option linter.unusedVariables false

section
variable {W w : World} {p m : Nat} {d : Dk} {E : List (Fl × Nat)} {X : List Asn} {n : List UInt8}
theorem turn_open {i : Nat} {x : Fl × Nat} (h : St W w (dkL p m d E ++ X)) (hi : E[i]? = some x) : ∃ A c,
    St W w (aBlk x.2 113 #[.slice A x.1.b.length c, .int .i64 (x.1.sure : Int)] :: aRow 5 1 (.slice A x.1.b.length c) x.1.b.length (cellsB x.1.b) :: aBlk p 86 #[.int .i64 d.room, .map (some m), .bool d.off] :: aMap Tryz.prog 9 m (dOf E) :: ((E.take i ++ E.drop (i + 1)).map aFile ++ X)) := by
  obtain ⟨v, hv⟩ := aFile.open_ (dkL.pick h hi)
  obtain ⟨A, c, rfl⟩ := St.rowSlice hv.swap
  exact ⟨A, c, hv⟩
theorem set_fls {i : Nat} (y : Fl × Nat) : flsOf (E.set i y) = (flsOf E).set i y.1 := by simp [flsOf, List.map_set]
theorem turn_back {i : Nat} {x : Fl × Nat} {v : Value} {f' : Fl} (hE : DkE d (m, E)) (hi : E[i]? = some x) (hn : f'.nm = x.1.nm) (hok : ({ d with R := d.R.set i f' } : Dk).ok)
    (h : St W w (aBlk x.2 113 #[v, .int .i64 (f'.sure : Int)] :: aRow 5 1 v f'.b.length (cellsB f'.b) :: aBlk p 86 #[.int .i64 d.room, .map (some m), .bool d.off] :: aMap Tryz.prog 9 m (dOf E) :: ((E.take i ++ E.drop (i + 1)).map aFile ++ X))) :
    St W w (aDisk p { d with R := d.R.set i f' } :: X) := by
  have h1 := aFile.shut (x := (f', x.2)) h
  have h2 := dkL.unpick (d := d) (d' := { d with R := d.R.set i f' }) (y := (f', x.2)) hi ⟨rfl, rfl⟩ hn rfl h1
  exact aDisk.shut (E := E.set i (f', x.2)) ⟨hok, by rw [set_fls, hE.2]⟩ h2
theorem turn_some {i : Nat} {e : Int} {f : Fl} {g : Fl → Int × Fl} (hm : mayF d n = (some i, e)) (hf : d.R[i]? = some f) : turnF d n g = ((g f).1, { d with R := d.R.set i (g f).2 }) := by
  unfold turnF; rw [hm]; simp only; rw [hf]
theorem turn_none {e : Int} {g : Fl → Int × Fl} (hm : mayF d n = (none, e)) : turnF d n g = (e, d) := by
  unfold turnF; rw [hm]
theorem room_c (h : St W w (dkL p m d E ++ X)) (hE : DkE d (m, E)) : Calls Tryz.prog 74 #[.pointer (some ⟨p, 0, none⟩)] w fun e w' => e = .returned (.int .i64 (d.room - (usedF d.R : Int))) ∧ B w w' := by
  have hb := dkL.blk h
  have HN := Lib.hid (none_c hb)
  have l0 : ∀ w', B w w' → w'.cell? ⟨p, 0, none⟩ = some (.int .i64 d.room) := fun w' h => h.cell (by have := hb.cell 0; simpa using this)
  have HU := Lib.hid (fun w' (hw : B w w') => used_c (h.later hw) hE)
  have hr := hE.1.room
  have hu := hE.1.used
  obtain ⟨hr1, hr2⟩ := hr
  have hu0 : (0 : Int) ≤ (usedF d.R : Int) := by omega
  have hq : IntKind.i64.wrap (d.room - (usedF d.R : Int)) = d.room - (usedF d.R : Int) := by simp [IntKind.wrap, IntKind.signed, IntKind.bits]; omega
  clear h hE hb
  go_enter Tryz.func74, Tryz.ntmps74
  go_wp2_with (first | (go_at_call 72; (with_reducible refine HN.out.mono ?_); rintro e w1 ⟨rfl, rfl⟩))
  go_region_held3 (fun w' => B w w') (first | assumption | exact (Below.refl _ _).drew | exact B.trans (by assumption) hb2 | exact B.trans (by assumption) (Below.refl _ _).drew) (first
    | (go_at_call 33; (with_reducible refine (HU.out _ (by assumption)).mono ?_); rintro e w2 ⟨rfl, hb2⟩))
  all_goals
    have hlast := ‹B w _›
    go_wp2_with fail
    go_ret
    exact ⟨rfl, hlast⟩
theorem small_file (hE : DkE d (m, E)) {i : Nat} {x : Fl × Nat} (hx : E[i]? = some x) : x.1.b.length ≤ 4194304 := by
  have h1 : x.1 ∈ d.R := by rw [← hE.2]; exact List.mem_map.2 ⟨x, List.mem_of_getElem? hx, rfl⟩
  obtain ⟨j, hj, e⟩ := List.mem_iff_getElem.1 h1
  have h2 := used_drop (R := d.R) (i := j) (f := x.1) (by rw [List.getElem?_eq_getElem hj, e])
  have := hE.1.used
  have := hE.1.room
  omega
theorem file_bs (hE : DkE d (m, E)) {i : Nat} {x : Fl × Nat} (hx : E[i]? = some x) (h : St W w (dkL p m d E ++ X)) : ∃ A c, w.cell? ⟨x.2, 0, none⟩ = some (.slice A x.1.b.length c) ∧ Bs w (.slice A x.1.b.length c) x.1.b := by
  obtain ⟨A, c, hv⟩ := turn_open h hx
  refine ⟨A, c, ?_, St.rowBs hv.swap rfl (by have := small_file hE hx; unfold big; omega)⟩
  have := (aBlk.get hv).cell 0
  simpa using this
theorem get_c (h : St W w (aDisk p d :: X)) (hn : n.length ≤ maxLen) : Calls Tryz.prog 34 #[.pointer (some ⟨p, 0, none⟩), .string (bstr n)] w fun e w' => ∃ v, e = .returned (.tuple #[v, .int .i64 (getF d n).2]) ∧ St W w' (aBy v (getF d n).1 :: aDisk p d :: X) := by
  have H0 := Lib.hid h
  obtain ⟨m, E, hE, h⟩ := aDisk.open_ h
  cases hm : mayF d n with
  | mk o er =>
  cases o with
  | none =>
    have hf : getF d n = ([], er) := by unfold getF; rw [hm]
    have HF := Lib.hid (find_no h hE hn hm)
    have q1 : (er != 0) = true := by simpa using may_none hm
    rw [hf]
    clear h hE hn hm hf
    go_enter Tryz.func34, Tryz.ntmps34
    go_wp2_with (first | (go_at_call 73; (with_reducible refine HF.out.mono ?_); rintro e w1 ⟨rfl, rfl⟩))
    go_ret2
    exact ⟨_, rfl, aBy.nil H0.out⟩
  | some i =>
    obtain ⟨_, x, hx, _, hd⟩ := may_on hE hm
    have hf : getF d n = (x.1.b, 0) := by unfold getF; rw [hm]; simp only; rw [hd]; rfl
    have HF := Lib.hid (find_yes h hE hn hm hx)
    obtain ⟨A, c, c0, hbs⟩ := file_bs hE hx h
    have HC := Lib.hid (sclone_c hbs)
    rw [hf]
    obtain ⟨y, g⟩ := x
    simp only at c0 HC
    clear h hE hn hm hf hx hd hbs
    go_enter Tryz.func34, Tryz.ntmps34
    go_wp2_with (first
      | (go_at_call 73; (with_reducible refine HF.out.mono ?_); rintro e w1 ⟨rfl, rfl⟩)
      | (go_at_call 32; (with_reducible refine HC.out.mono ?_); rintro e w2 ⟨v2, rfl, r2, hb2⟩; have HS := Lib.hid (H0.out.addRow hb2 r2); clear r2 hb2))
    go_ret2
    exact ⟨_, rfl, HS.out⟩
theorem sync_c (h : St W w (aDisk p d :: X)) (hn : n.length ≤ maxLen) : Calls Tryz.prog 37 #[.pointer (some ⟨p, 0, none⟩), .string (bstr n)] w fun e w' => e = .returned (.int .i64 (syncF d n).1) ∧ St W w' (aDisk p (syncF d n).2 :: X) := by
  have H0 := Lib.hid h
  obtain ⟨m, E, hE, h⟩ := aDisk.open_ h
  cases hm : mayF d n with
  | mk o er =>
  cases o with
  | none =>
    have hf : syncF d n = (er, d) := turn_none hm
    have HF := Lib.hid (find_no h hE hn hm)
    have q1 : (er == 0) = false := by simpa using may_none hm
    rw [hf]
    clear h hE hn hm hf
    go_enter Tryz.func37, Tryz.ntmps37
    go_wp2_with (first | (go_at_call 73; (with_reducible refine HF.out.mono ?_); rintro e w1 ⟨rfl, rfl⟩))
    go_ret
    exact ⟨rfl, H0.out⟩
  | some i =>
    obtain ⟨_, x, hx, _, hd⟩ := may_on hE hm
    have hf : syncF d n = (0, { d with R := d.R.set i ⟨x.1.nm, x.1.b, x.1.b.length⟩ }) := turn_some hm hd
    have hok := sync_ok hE.1 n
    rw [hf] at hok ⊢
    have HF := Lib.hid (find_yes h hE hn hm hx)
    obtain ⟨A, c, hv⟩ := turn_open h hx
    have hb := aBlk.get hv
    have c0 := hb.cell 0
    have c1 := hb.cell 1
    have f1 := hb.frozen 1
    simp at c0 c1
    have HB := Lib.hid (turn_back (f' := ⟨x.1.nm, x.1.b, x.1.b.length⟩) hE hx rfl hok (aBlk.set hv 1 (.int .i64 (x.1.b.length : Int))))
    obtain ⟨y, g⟩ := x
    simp only at c0 c1 f1 HF
    clear h hE hn hm hf hx hd hv hb hok
    go_enter Tryz.func37, Tryz.ntmps37
    go_wp2_with (first | (go_at_call 73; (with_reducible refine HF.out.mono ?_); rintro e w1 ⟨rfl, rfl⟩))
    go_ret
    exact ⟨rfl, HB.out⟩
theorem dk_off (h : St W w (dkL p m d E ++ X)) (hE : DkE d (m, E)) (o : Bool) : St W (w.setCell ⟨p, 2, none⟩ (.bool o)) (aDisk p { d with off := o } :: X) := by
  have h1 := aBlk.set h 2 (.bool o)
  exact aDisk.shut (m := m) (E := E) ⟨⟨hE.1.rise, hE.1.sure, hE.1.used, hE.1.room, hE.1.many⟩, hE.2⟩ h1
theorem restart_c (h : St W w (aDisk p d :: X)) : Calls Tryz.prog 39 #[.pointer (some ⟨p, 0, none⟩)] w fun e w' => e = .returned (.int .i64 (restartF d).1) ∧ St W w' (aDisk p (restartF d).2 :: X) := by
  have H0 := Lib.hid h
  obtain ⟨m, E, hE, h⟩ := aDisk.open_ h
  have hb := dkL.blk h
  have HN := Lib.hid (none_c hb)
  have c2 := hb.cell 2
  have f2 := hb.frozen 2
  simp at c2
  have HO := Lib.hid (dk_off h hE false)
  unfold restartF
  cases ho : d.off
  all_goals
    rw [ho] at c2
    clear h hE hb ho
    go_enter Tryz.func39, Tryz.ntmps39
    go_wp2_with (first | (go_at_call 72; (with_reducible refine HN.out.mono ?_); rintro e w1 ⟨rfl, rfl⟩))
    go_ret
  · exact ⟨rfl, H0.out⟩
  · exact ⟨rfl, HO.out⟩
set_option maxRecDepth 20000 in
theorem append_c {u : Value} {b : List UInt8} (h : St W w (aDisk p d :: X)) (hn : n.length ≤ maxLen) (hu : Bs w u b) (hbl : b.length ≤ 4194304000) : Calls Tryz.prog 66 #[.pointer (some ⟨p, 0, none⟩), .string (bstr n), u] w fun e w' => e = .returned (.int .i64 (appendF d n b).1) ∧ St W w' (aDisk p (appendF d n b).2 :: X) := by
  have H0 := Lib.hid h
  obtain ⟨m, E, hE, h⟩ := aDisk.open_ h
  obtain ⟨Au, cu, hus⟩ := hu.rd.slice
  cases hm : mayF d n with
  | mk o er =>
  cases o with
  | none =>
    have hf : appendF d n b = (er, d) := turn_none hm
    have HF := Lib.hid (find_no h hE hn hm)
    have q1 : (er != 0) = true := by simpa using may_none hm
    rw [hf]
    subst hus
    clear h hE hn hm hf hu
    go_enter Tryz.func66, Tryz.ntmps66
    go_wp2_with (first | (go_at_call 73; (with_reducible refine HF.out.mono ?_); rintro e w1 ⟨rfl, rfl⟩))
    go_ret
    exact ⟨rfl, H0.out⟩
  | some i =>
    obtain ⟨_, x, hx, _, hd⟩ := may_on hE hm
    have hf := turn_some (g := fun f => if d.room - usedF d.R < (b.length : Int) then (30, f) else (0, ⟨f.nm, f.b ++ b, f.sure⟩)) hm hd
    have hok := append_ok hE.1 n b
    unfold appendF at hok ⊢
    rw [hf] at hok ⊢
    have HF := Lib.hid (find_yes h hE hn hm hx)
    have HR := Lib.hid (room_c h hE)
    by_cases hlt : d.room - usedF d.R < (b.length : Int)
    · rw [if_pos hlt]
      simp only
      have hs : ({ d with R := d.R.set i x.1 } : Dk) = d := by
        have : d.R.set i x.1 = d.R := by
          apply List.ext_getElem?
          intro j
          rw [List.getElem?_set]
          split
          · rename_i e
            subst e
            split
            · exact hd.symm
            · rename_i hh; rw [List.getElem?_eq_none (by omega)]
          · rfl
        rw [this]
      rw [hs]
      subst hus
      clear h hE hn hm hf hu hok hx hd hs
      go_enter Tryz.func66, Tryz.ntmps66
      go_wp2_with (first
        | (go_at_call 73; (with_reducible refine HF.out.mono ?_); rintro e w1 ⟨rfl, rfl⟩)
        | (go_at_call 74; (with_reducible refine HR.out.mono ?_); rintro e w2 ⟨rfl, hb2⟩; have HB2 := Lib.hid hb2; clear hb2))
      go_ret
      exact ⟨rfl, H0.out.later HB2.out⟩
    · rw [if_neg hlt] at hok ⊢
      simp only at hok ⊢
      obtain ⟨A, c, hv⟩ := turn_open h hx
      have HV := Lib.hid (fun w' (hb : B w w') => hv.later hb)
      have HUB := Lib.hid (fun w' (hb : B w w') => (hu.later hb).rd)
      have hxl := small_file hE hx
      have g1 : x.1.b.length + b.length ≤ maxLen := by unfold maxLen; omega
      have g2 : (x.1.b.length + b.length) * 1 ≤ 140737488355328 := by omega
      have HK := Lib.hid (fun (w' : World) (A' : Option Addr) (c' : Nat) (hS : St W w' (aRow 5 1 (.slice A' (x.1.b.length + b.length) c') (x.1.b.length + b.length) (cellsB x.1.b ++ cellsB b) :: aBlk x.2 113 #[.slice A x.1.b.length c, .int .i64 (x.1.sure : Int)] :: aBlk p 86 #[.int .i64 d.room, .map (some m), .bool d.off] :: aMap Tryz.prog 9 m (dOf E) :: ((E.take i ++ E.drop (i + 1)).map aFile ++ X))) =>
        show St W (w'.setCell ⟨x.2, 0, none⟩ (.slice A' (x.1.b.length + b.length) c')) (aDisk p { d with R := d.R.set i ⟨x.1.nm, x.1.b ++ b, x.1.sure⟩ } :: X) from
        turn_back (f' := ⟨x.1.nm, x.1.b ++ b, x.1.sure⟩) hE hx rfl hok (by
          have := aBlk.set hS.swap 0 (.slice A' (x.1.b.length + b.length) c')
          rw [← cellsB_app, ← List.length_append] at this
          rw [← List.length_append]
          exact this))
      have HC := Lib.hid (fun (w' : World) (A' : Option Addr) (c' : Nat) (hS : St W w' (aRow 5 1 (.slice A' (x.1.b.length + b.length) c') (x.1.b.length + b.length) (cellsB x.1.b ++ cellsB b) :: aBlk x.2 113 #[.slice A x.1.b.length c, .int .i64 (x.1.sure : Int)] :: aBlk p 86 #[.int .i64 d.room, .map (some m), .bool d.off] :: aMap Tryz.prog 9 m (dOf E) :: ((E.take i ++ E.drop (i + 1)).map aFile ++ X))) => show w'.cell? ⟨x.2, 0, none⟩ = some (.slice A x.1.b.length c) ∧ w'.frozen? ⟨x.2, 0, none⟩ = false from
        ⟨by have := (aBlk.get hS.swap).cell 0; simpa using this, (aBlk.get hS.swap).frozen 0⟩)
      have HC0 := Lib.hid (fun (w' : World) (hb : B w w') => show w'.cell? ⟨x.2, 0, none⟩ = some (.slice A x.1.b.length c) from hb.cell (by have := (aBlk.get hv).cell 0; simpa using this))
      subst hus
      obtain ⟨y, g⟩ := x
      simp only at HF HV g1 g2 HK HC HC0
      have o1 := cellsB_one b
      clear h hE hn hm hf hu hok hx hd hv hxl
      go_enter Tryz.func66, Tryz.ntmps66
      go_wp2_with (first
        | (go_at_call 73; (with_reducible refine HF.out.mono ?_); rintro e w1 ⟨rfl, rfl⟩)
        | (go_at_call 74; (with_reducible refine HR.out.mono ?_); rintro e w2 ⟨rfl, hb2⟩; have HB2 := Lib.hid hb2; have k0 := HC0.out _ hb2; clear hb2)
        | (at_builtin; refine wpList_append_St rfl (.tmp 27) (.tmp 28) 22 rfl Tryz.underlying22 info5 rfl Nat.zero_lt_one rfl rfl (HV.out _ HB2.out).swap (HUB.out _ HB2.out) o1 g1 g2 ?_; intro A3 c3 w3 hS; have H3 := Lib.hid hS; obtain ⟨k1, k2⟩ := HC.out _ _ _ hS; clear hS k0))
      go_ret
      exact ⟨rfl, HK.out _ _ _ H3.out⟩
end
end Go.Proofs.YtnpjfjgnhadmjaaGreatDoor

/- Create, Remove, Rename of a disk. -/
namespace Go.Proofs.YtnpjfjgnhadmjaaGreatDoor
open Go.RowKit Go.Maps Go.Deep
set_option linter.unusedVariables false

section
variable {P : Program} {w w' : World} {ops : Array Oper} {rest : List Oper} {o : Oper} {a : Act} {Q : Exit → Act → World → Prop}
theorem wpList_mapUpdate_run (hg : o.guard = none) (m x v : Operand) (t : TypeId) (hop : o.op = Op.mapUpdate t m x v) {mv kv vv : Value} (hm : a.eval m = mv) (hx : a.eval x = kv) (hv : a.eval v = vv)
    (hrun : (Instr.mapUpdate t mv kv vv).run P w = .ok () w') (h : wpList P ops Q rest (a.put o.dst undef) w') : wpList P ops Q (o :: rest) a w := by
  refine wpList_plain hg fun K' hK' => ?_
  unfold Oper.wp
  simp [execOp, hop, hm, hx, hv, hrun, Result.andThen]
  exact hK' _ _ h
theorem wpList_delete_run (hg : o.guard = none) (m x : Operand) (t k : TypeId) (hop : o.op = Op.call { callee := Callee.builtin Builtin.delete, args := #[m, x], argTypes := #[t, k] }) {mv kv : Value} (hm : a.eval m = mv) (hx : a.eval x = kv)
    (hrun : ∀ ty, (Builtin.delete_ #[t, k] ty #[mv, kv]).run P w = .ok (.tuple #[]) w') (h : wpList P ops Q rest (a.put o.dst (.tuple #[])) w') : wpList P ops Q (o :: rest) a w := by
  refine wpList_plain hg fun K' hK' => ?_
  unfold Oper.wp
  simp [execOp, hop, resolve, invoke, builtin, hm, hx, hrun, Result.andThen]
  exact hK' _ _ h
theorem wpList_len_run (hg : o.guard = none) (m : Operand) (t : TypeId) (hop : o.op = Op.call { callee := Callee.builtin Builtin.len, args := #[m], argTypes := #[t] }) {mv lv : Value} (hm : a.eval m = mv)
    (hrun : ∀ ty, (Builtin.len_ #[t] ty #[mv]).run P w = .ok lv w) (h : wpList P ops Q rest (a.put o.dst lv) w) : wpList P ops Q (o :: rest) a w := by
  refine wpList_plain hg fun K' hK' => ?_
  unfold Oper.wp
  simp [execOp, hop, resolve, invoke, builtin, hm, hrun, Result.andThen]
  exact hK' _ _ h
end
theorem bstr_nil (n : List UInt8) : (bstr n).toList.isEmpty = decide (n = []) := by
  rw [bstr_toList]
  cases n <;> simp
section
variable {W w : World} {p m : Nat} {d : Dk} {E : List (Fl × Nat)} {X : List Asn} {n : List UInt8}
theorem many_E (hE : DkE d (m, E)) : E.length ≤ 64 ∧ E.length = d.R.length := by
  have h1 := hE.1.many
  have h2 := congrArg List.length hE.2
  simp [flsOf] at h2
  omega
theorem dk_create (h : St W w (dkL p m d E ++ X)) (hE : DkE d (m, E)) (hn : n.length ≤ maxLen) (hok : (createF d n).2.ok) (hi : ixF n d.R = none) (hc : createF d n = (0, { d with R := insF ⟨n, [], 0⟩ d.R })) :
    ∃ w', (Instr.mapUpdate 84 (.map (some m)) (.string (bstr n)) (.pointer (some ⟨w.heap.size, 0, none⟩))).run Tryz.prog (w.alloc (.cells #[.slice none 0 0, .int .i64 0] 113)) = .ok () w' ∧ St W w' (aDisk p (createF d n).2 :: X) := by
  have h1 := aBlk.new h 113 #[.slice none 0 0, .int .i64 0]
  have h2 : St W (w.alloc (.cells #[.slice none 0 0, .int .i64 0] 113)) (aFile (⟨n, [], 0⟩, w.heap.size) :: (dkL p m d E ++ X)) := aFile.shut (x := (⟨n, [], 0⟩, w.heap.size)) (aBy.nil h1).swap
  have h3 := h2.rot3
  have hl := (many_E hE).1
  obtain ⟨w', r1, r2, _⟩ := aMap.store h3 ⟨_, rfl, by simp; unfold maxLen; omega⟩ strLaw Tryz.underlying84 (keyN hn) w.heap.size
  refine ⟨w', r1, ?_⟩
  have hs := hE.1.rise
  rw [← hE.2] at hs
  have hi' : ixF n (flsOf E) = none := by rw [hE.2]; exact hi
  rw [show (dOf E).put (.string n) (.lit (.int .i64 (w.heap.size : Int))) = dOf (insE (⟨n, [], 0⟩, w.heap.size) E) by
    have := dOf_put hs ⟨n, [], 0⟩ w.heap.size
    rw [dropE_none hi'] at this
    exact this] at r2
  rw [hc] at hok ⊢
  refine aDisk.shut (m := m) (E := insE (⟨n, [], 0⟩, w.heap.size) E) ⟨hok, by rw [insE_fls, hE.2]⟩ (r2.perm ?_)
  unfold dkL
  have h4 := ((insE_perm (⟨n, [], 0⟩, w.heap.size) E).map aFile).append_right X
  simp only [List.cons_append, List.map_cons] at h4 ⊢
  refine (List.Perm.trans ?_ (List.Perm.cons _ (List.Perm.cons _ h4.symm)))
  exact (List.Perm.cons _ (List.Perm.swap _ _ _)).trans (List.Perm.swap _ _ _)
set_option maxRecDepth 20000 in
theorem create_c (h : St W w (aDisk p d :: X)) (hn : n.length ≤ maxLen) : Calls Tryz.prog 88 #[.pointer (some ⟨p, 0, none⟩), .string (bstr n)] w fun e w' => e = .returned (.int .i64 (createF d n).1) ∧ St W w' (aDisk p (createF d n).2 :: X) := by
  have H0 := Lib.hid h
  obtain ⟨m, E, hE, h⟩ := aDisk.open_ h
  have hb := dkL.blk h
  have c1 := hb.cell 1
  simp at c1
  have HC := Lib.hid (can_c hb)
  have q0 := bstr_nil n
  cases ho : d.off with
  | true =>
    rw [ho] at HC
    have hf : createF d n = (32, d) := by unfold createF; rw [if_pos ho]
    rw [hf]
    clear h hE hn hb ho hf
    go_enter Tryz.func88, Tryz.ntmps88
    go_wp2_with (first | (go_at_call 76; (with_reducible refine HC.out.mono ?_); rintro e w1 ⟨rfl, rfl⟩))
    go_ret
    exact ⟨rfl, H0.out⟩
  | false =>
    rw [ho] at HC
    have ho' : ¬ d.off = true := by rw [ho]; simp
    by_cases h1 : n = []
    · have hf : createF d n = (1, d) := by unfold createF; rw [if_neg ho', if_pos h1]
      rw [hf]
      rw [decide_eq_true h1] at q0
      clear h hE hn hb ho hf ho'
      subst h1
      go_enter Tryz.func88, Tryz.ntmps88
      go_wp2_with (first | (go_at_call 76; (with_reducible refine HC.out.mono ?_); rintro e w1 ⟨rfl, rfl⟩))
      go_ret
      exact ⟨rfl, H0.out⟩
    · rw [decide_eq_false h1] at q0
      cases hi : ixF n d.R with
      | some i =>
        have hf : createF d n = (31, d) := by unfold createF; rw [if_neg ho', if_neg h1, if_pos (by rw [hi]; rfl)]
        obtain ⟨x, hx, _⟩ := dOf_at (E := E) (n := n) (i := i) (by rw [hE.2]; exact hi)
        have hl := look_yes h hn (by rw [hE.2]; exact hi) hx
        rw [hf]
        generalize x.2 = g at *
        clear h hE hn hb ho hf ho' h1 hi hx
        go_enter Tryz.func88, Tryz.ntmps88
        go_wp2_with (first | (go_at_call 76; (with_reducible refine HC.out.mono ?_); rintro e w1 ⟨rfl, rfl⟩))
        go_ret
        exact ⟨rfl, H0.out⟩
      | none =>
        have hl := look_no h hn (by rw [hE.2]; exact hi)
        have hlen := fun ty => aMap.len h.swap Tryz.underlying84 ty
        rw [dOf_size] at hlen
        have hme := many_E hE
        by_cases h2 : 64 ≤ d.R.length
        · have hf : createF d n = (6, d) := by unfold createF; rw [if_neg ho', if_neg h1, if_neg (by rw [hi]; simp), if_pos h2]
          have he : E.length = 64 := by omega
          rw [he] at hlen
          rw [hf]
          have HLN := Lib.hid hlen
          clear h hE hn hb ho hf ho' h1 hi hme h2 he hlen
          go_enter Tryz.func88, Tryz.ntmps88
          go_wp2_with (first
            | (go_at_call 76; (with_reducible refine HC.out.mono ?_); rintro e w1 ⟨rfl, rfl⟩)
            | (at_len; refine wpList_len_run rfl (.tmp 26) 84 rfl rfl HLN.out ?_))
          go_ret
          exact ⟨rfl, H0.out⟩
        · have hf : createF d n = (0, { d with R := insF ⟨n, [], 0⟩ d.R }) := by unfold createF; rw [if_neg ho', if_neg h1, if_neg (by rw [hi]; simp), if_neg h2]; rfl
          obtain ⟨w', hrun, hS⟩ := dk_create h hE hn (create_ok hE.1 n) hi hf
          rw [hf] at hS ⊢
          have HS := Lib.hid hS
          have HRN := Lib.hid hrun
          have HLN := Lib.hid hlen
          have he : (E.length : Int) < 64 := by omega
          clear h hE hn hb ho hf ho' h1 hi hme h2 hlen hS hrun
          go_enter Tryz.func88, Tryz.ntmps88
          go_wp2_with (first
            | (go_at_call 76; (with_reducible refine HC.out.mono ?_); rintro e w1 ⟨rfl, rfl⟩)
            | (at_mapUpdate; refine wpList_mapUpdate_run rfl (.tmp 32) (.tmp 33) (.tmp 35) 84 rfl rfl rfl rfl HRN.out ?_)
            | (at_len; refine wpList_len_run rfl (.tmp 26) 84 rfl rfl HLN.out ?_))
          go_ret
          exact ⟨rfl, HS.out⟩
theorem dk_remove {i : Nat} {x : Fl × Nat} {er : Int} (h : St W w (dkL p m d E ++ X)) (hE : DkE d (m, E)) (hn : n.length ≤ maxLen) (hm : mayF d n = (some i, er)) (hx : E[i]? = some x) :
    ∃ w', (∀ ty, (Builtin.delete_ #[84, 9] ty #[.map (some m), .string (bstr n)]).run Tryz.prog w = .ok (.tuple #[]) w') ∧ St W w' (aFile x :: (dkL p m d (dropE n E) ++ X)) := by
  have h1 := dkL.pick h hx
  have hs := hE.1.rise
  rw [← hE.2] at hs
  obtain ⟨w', r1, r2, r3⟩ := aMap.drop (T := 84) h1.rot3 strLaw Tryz.underlying84 (keyN hn) 0
  refine ⟨w', fun ty => r1, ?_⟩
  rw [dOf_del hs] at r2
  have hd : dropE n E = E.take i ++ E.drop (i + 1) := by unfold dropE; rw [(may_on hE hm).1]
  rw [hd] at r2 ⊢
  unfold dkL
  exact r2.perm ((List.Perm.swap _ _ _).trans (List.Perm.cons _ (List.Perm.swap _ _ _)))
set_option maxRecDepth 20000 in
theorem remove_c (h : St W w (aDisk p d :: X)) (hn : n.length ≤ maxLen) : Calls Tryz.prog 70 #[.pointer (some ⟨p, 0, none⟩), .string (bstr n)] w fun e w' => e = .returned (.int .i64 (removeF d n).1) ∧ St W w' (aDisk p (removeF d n).2 :: X) := by
  have H0 := Lib.hid h
  obtain ⟨m, E, hE, h⟩ := aDisk.open_ h
  have hb := dkL.blk h
  have c1 := hb.cell 1
  simp at c1
  cases hm : mayF d n with
  | mk o er =>
  cases o with
  | none =>
    have hf : removeF d n = (er, d) := by unfold removeF; rw [hm]
    have HF := Lib.hid (find_no h hE hn hm)
    have q1 : (er == 0) = false := by simpa using may_none hm
    rw [hf]
    clear h hE hn hm hf hb
    go_enter Tryz.func70, Tryz.ntmps70
    go_wp2_with (first | (go_at_call 73; (with_reducible refine HF.out.mono ?_); rintro e w1 ⟨rfl, rfl⟩))
    go_ret
    exact ⟨rfl, H0.out⟩
  | some i =>
    obtain ⟨hix, x, hx, _, hd⟩ := may_on hE hm
    have hf : removeF d n = (0, { d with R := d.R.take i ++ d.R.drop (i + 1) }) := by unfold removeF; rw [hm]
    have hok := remove_ok hE.1 n
    have HF := Lib.hid (find_yes h hE hn hm hx)
    obtain ⟨w', hrun, hS⟩ := dk_remove h hE hn hm hx
    have HRN := Lib.hid hrun
    rw [hf] at hok ⊢
    have HS := Lib.hid (show St W w' (aDisk p { d with R := d.R.take i ++ d.R.drop (i + 1) } :: X) from aDisk.shut (m := m) (E := dropE n E) ⟨hok, by rw [dropE_fls, hE.2]; unfold dropF; rw [show ixF n d.R = some i by rw [← hE.2]; exact hix]⟩ hS.drop)
    clear h hE hn hm hf hb hok hS hrun hx hd hix
    go_enter Tryz.func70, Tryz.ntmps70
    go_wp2_with (first
      | (go_at_call 73; (with_reducible refine HF.out.mono ?_); rintro e w1 ⟨rfl, rfl⟩)
      | (at_delete; refine wpList_delete_run rfl (.tmp 18) (.tmp 19) 84 9 rfl rfl rfl HRN.out ?_))
    go_ret
    exact ⟨rfl, HS.out⟩
theorem ins_self {E : List (Fl × Nat)} (hs : (flsOf E).Pairwise (fun a b => bytesBefore a.nm b.nm = true)) {i : Nat} {x : Fl × Nat} (hx : E[i]? = some x) : insE x (dropE x.1.nm E) = E := by
  have hi := ix_self hs hx
  have hd : dropE x.1.nm E = E.take i ++ E.drop (i + 1) := by unfold dropE; rw [hi]
  have hs' : (flsOf (insE x (dropE x.1.nm E))).Pairwise (fun a b => bytesBefore a.nm b.nm = true) := by
    rw [insE_fls, dropE_fls]
    exact ins_rise (dropF_rise hs _) _ (dropF_not hs _)
  have hp : (insE x (dropE x.1.nm E)).Perm E := by
    refine (insE_perm _ _).trans ?_
    rw [hd]
    exact (perm_pick hx).symm
  refine List.Perm.eq_of_pairwise (le := fun a b => bytesBefore a.1.nm b.1.nm = true) (fun a b _ _ h1 h2 => ?_) (List.pairwise_map.1 hs') (List.pairwise_map.1 hs) hp
  have := bb_trans _ _ _ h1 h2
  rw [bb_irr] at this; cases this
theorem dk_rename {i : Nat} {x : Fl × Nat} {er : Int} {to : List UInt8} (h : St W w (aFile x :: (dkL p m d (dropE n E) ++ X))) (hE : DkE d (m, E)) (ht : to.length ≤ maxLen) (hm : mayF d n = (some i, er)) (hx : E[i]? = some x) (ht0 : to ≠ []) :
    ∃ w', (Instr.mapUpdate 84 (.map (some m)) (.string (bstr to)) (.pointer (some ⟨x.2, 0, none⟩))).run Tryz.prog w = .ok () w' ∧ St W w' (aDisk p (renameF d n to).2 :: X) := by
  have hs := hE.1.rise
  rw [← hE.2] at hs
  have hs1 : (flsOf (dropE n E)).Pairwise (fun a b => bytesBefore a.nm b.nm = true) := by rw [dropE_fls]; exact dropF_rise hs n
  have hl := (many_E hE).1
  have hle : (dropE n E).length ≤ 64 := by
    have := (dropF_le n (flsOf E)).1
    rw [← dropE_fls] at this
    simp [flsOf] at this; omega
  obtain ⟨w', r1, r2, _⟩ := aMap.store h.rot3 ⟨_, rfl, by simp; unfold maxLen; omega⟩ strLaw Tryz.underlying84 (keyN ht) x.2
  refine ⟨w', r1, ?_⟩
  have hp := dOf_put hs1 ⟨to, x.1.b, x.1.sure⟩ x.2
  rw [hp] at r2
  -- the file that had the name is no more
  have h3 : St W w' (aMap Tryz.prog 9 m (dOf (insE (⟨to, x.1.b, x.1.sure⟩, x.2) (dropE to (dropE n E)))) :: aFile x :: aBlk p 86 #[.int .i64 d.room, .map (some m), .bool d.off] :: ((dropE to (dropE n E)).map aFile ++ X)) := by
    cases hi : ixF to (flsOf (dropE n E)) with
    | none => rw [dropE_none hi] at r2 ⊢; exact r2
    | some k =>
      obtain ⟨y, hy, _, _⟩ := dOf_at hi
      have hd : dropE to (dropE n E) = (dropE n E).take k ++ (dropE n E).drop (k + 1) := by unfold dropE at hi ⊢; rw [hi]
      have h1 := (perm_pick (L := (dropE n E).map aFile) (i := k) (a := aFile y) (by rw [List.getElem?_map, hy]; rfl)).append_right X
      rw [← List.map_take, ← List.map_drop, ← List.map_append, ← hd] at h1
      simp only [List.cons_append] at h1
      have h2 := r2.perm (((h1.cons _).cons _).cons _)
      have h4 := h2.perm (((List.Perm.swap _ _ _).cons _).cons _)
      have h5 := h4.perm ((List.Perm.swap _ _ _).cons _)
      exact (h5.perm (List.Perm.swap _ _ _)).drop
  have h4 : St W w' (aFile (⟨to, x.1.b, x.1.sure⟩, x.2) :: aBlk p 86 #[.int .i64 d.room, .map (some m), .bool d.off] :: aMap Tryz.prog 9 m (dOf (insE (⟨to, x.1.b, x.1.sure⟩, x.2) (dropE to (dropE n E)))) :: ((dropE to (dropE n E)).map aFile ++ X)) :=
    St.conv (A := aFile x) (h3.perm ((List.Perm.swap _ _ _).trans (List.Perm.cons _ (List.Perm.swap _ _ _)))) (fun own hA => hA)
  have h5 : St W w' (dkL p m d (insE (⟨to, x.1.b, x.1.sure⟩, x.2) (dropE to (dropE n E))) ++ X) := by
    refine h4.perm ?_
    have h6 := ((insE_perm (⟨to, x.1.b, x.1.sure⟩, x.2) (dropE to (dropE n E))).map aFile).append_right X
    unfold dkL
    simp only [List.cons_append, List.map_cons] at h6 ⊢
    refine (List.Perm.trans ?_ (List.Perm.cons _ (List.Perm.cons _ h6.symm)))
    exact (List.Perm.swap _ _ _).trans (List.Perm.cons _ (List.Perm.swap _ _ _))
  obtain ⟨_, x', hx', hnm, hd'⟩ := may_on hE hm
  have hxx : x' = x := by rw [hx] at hx'; exact (Option.some.inj hx').symm
  subst hxx
  have hok := rename_ok hE.1 n to
  have hf : renameF d n to = if to = n then (0, d) else (0, { d with R := insF ⟨to, x'.1.b, x'.1.sure⟩ (dropF to (dropF n d.R)) }) := by
    unfold renameF; rw [hm]; simp only; rw [hd']; simp only; rw [if_neg ht0]
  rw [hf] at hok ⊢
  by_cases hto : to = n
  · rw [if_pos hto]
    have e1 : dropE to (dropE n E) = dropE n E := by
      subst hto
      refine dropE_none ?_
      cases hi : ixF to (flsOf (dropE to E)) with
      | none => rfl
      | some k =>
        obtain ⟨f, k1, k2, _⟩ := ixF_some hi
        have := dropF_not hs to f (by rw [← dropE_fls]; exact List.mem_of_getElem? k1)
        exact absurd k2 this
    rw [e1] at h5
    have e2 : insE (⟨to, x'.1.b, x'.1.sure⟩, x'.2) (dropE n E) = E := by
      have h7 : ((⟨to, x'.1.b, x'.1.sure⟩, x'.2) : Fl × Nat) = x' := by
        rw [hto, ← hnm]
      rw [h7, ← hnm]
      exact ins_self hs hx
    rw [e2] at h5
    exact aDisk.shut (m := m) (E := E) hE h5
  · rw [if_neg hto] at hok ⊢
    exact aDisk.shut (m := m) (E := insE (⟨to, x'.1.b, x'.1.sure⟩, x'.2) (dropE to (dropE n E))) ⟨hok, by rw [insE_fls, dropE_fls, dropE_fls, hE.2]⟩ h5
end
end Go.Proofs.YtnpjfjgnhadmjaaGreatDoor

/- slices.Grow, slices.Concat; Truncate, Write of a disk. -/
namespace Go.Proofs.YtnpjfjgnhadmjaaGreatDoor
open Go.RowKit Go.Maps Go.Deep
set_option linter.unusedVariables false

theorem row_up {w : World} {e : TypeId} {sz n base : Nat} {v : Value} {xs : List Value} (h : w.ownsRow 0 e sz v n xs) (hg : ∀ g, v.ownBlock = some g → base ≤ g) : w.ownsRow base e sz v n xs := by
  refine ⟨h.1, ?_⟩
  rcases h.2 with h | ⟨g, cap, cur, rfl, _, r⟩
  · exact .inl h
  · exact .inr ⟨g, cap, cur, rfl, hg g rfl, r⟩
theorem St.rowUp {W w : World} {e : TypeId} {sz n : Nat} {v : Value} {xs : List Value} {X : List Asn} (h : St W w (aRow e sz v n xs :: X)) : w.ownsRow W.heap.size e sz v n xs := by
  obtain ⟨own, hr, ho⟩ := h.get
  exact row_up hr.1 (fun g hg => (ho g (hr.2 g hg)).1)
set_option maxRecDepth 20000 in
theorem grow_c (w : World) (n : Nat) (hn : n ≤ 1099511627776) : Calls Tryz.prog 105 #[.slice none 0 0, .int .i64 (n : Int)] w fun e w' => ∃ v, e = .returned v ∧ St w w' [aBy v []] := by
  rcases Nat.eq_zero_or_pos n with h0 | h0
  · subst h0
    have H0 := Lib.hid (aBy.nil (St.nil w))
    go_enter Tryz.func105, Tryz.ntmps105
    go_wp2
    go_ret
    exact ⟨_, rfl, H0.out⟩
  · obtain ⟨i0, hi, hz0, hz1, hz2⟩ := info_parts info5
    have hrun : ∀ ty, (Builtin.append_ #[22, 3] ty #[.slice none 0 0, .int .i64 (n : Int)]).run Tryz.prog w = _ := fun ty =>
      Go.Lib.run_append_grow_zeros w 22 3 ty 5 i0 (.int .u8 0) .i64 .i64 Tryz.underlying22 Tryz.underlying3 hi hz0 none 0 0 [] (run_firstCells_none w.drew i0.size 0 0 0) n h0 (by rw [hz1]; omega) (by omega) (by omega) (by rw [hz2]; omega) (by rw [hz2]; simpa using growslice_fits (need := n) (old := 0) (bytes := 1) h0 (by omega))
    have hG := grownCap_ge w n 0 5
    have hGm := grownCap_le_maxLen w n 0 5 (by unfold maxLen; omega)
    simp only [Nat.zero_add] at hrun
    generalize grownCap w n 0 5 = G at *
    have hn0 : (0 : Int) < (n : Int) := by omega
    have hni : (n : Int) ≤ 1099511627776 := by omega
    have hG63 : (G : Int) ≤ 9223372036854775807 := by unfold maxLen at hGm; omega
    have HRUN := Lib.hid hrun
    have HS := Lib.hid (show St w (w.alloc (.cells (Builtin.zeroCells #[Value.int .u8 0] n ++ Builtin.zeroCells #[Value.int .u8 0] (G - n)) 5)).drew [aBy (.slice (some ⟨w.heap.size, 0, none⟩) 0 G) []] from
      (St.nil w).add ((B.alloc' w _).trans (Below.refl _ _).drew) (A := aBy _ []) (own := fun b => b = w.heap.size) ⟨⟨by simp [cellsB], .inr ⟨w.heap.size, G, _, rfl, Nat.zero_le _, heap_alloc_new w _, Nat.zero_le _, hGm, by simp [Builtin.zeroCells]; omega, by simp [cellsB]⟩⟩, fun g hg => by simp [Value.ownBlock] at hg; exact hg.symm⟩ (fun x e => by omega))
    clear hrun hi hz0 hz1 hz2
    go_enter Tryz.func105, Tryz.ntmps105
    go_wp2_with (at_builtin; refine Lib.wpList_append_run _ rfl _ _ _ _ rfl _ _ rfl rfl _ _ (HRUN.out _) ?_)
    all_goals
      go_ret
      exact ⟨_, rfl, HS.out⟩
set_option maxRecDepth 20000 in
set_option maxHeartbeats 2000000 in
theorem concat_c {w : World} {g k : Nat} {L : List (List UInt8)} (hk : L.length = k) (hk2 : k ≤ 1000) (hg : ∀ (j : Nat) (x : List UInt8), L[j]? = some x → ∃ u, w.cell? ⟨g, j, none⟩ = some u ∧ Bs w u x) (ht : (L.map List.length).sum ≤ 1099511627776) :
    Calls Tryz.prog 75 #[.slice (some ⟨g, 0, none⟩) k k] w (ClonePost w L.flatten) := by
  have HG := Lib.hid hg
  have HK := Lib.hid hk
  have htk : ∀ q, ((L.take q).map List.length).sum ≤ (L.map List.length).sum := fun q => by
    conv => rhs; rw [← List.take_append_drop q L]
    rw [List.map_append, List.sum_append]; omega
  have HT := Lib.hid (show ∀ q, ((L.take q).map List.length).sum ≤ 1099511627776 from fun q => Nat.le_trans (htk q) ht)
  have hki : (k : Int) ≤ 1000 := by omega
  clear hg ht htk hk
  go_enter Tryz.func75, Tryz.ntmps75
  go_wp2_with fail
  go_loop [3, 11] (fun s i => ∃ q : Nat, q ≤ k ∧ i = .int .i64 q ∧ s = .int .i64 (((L.take q).map List.length).sum : Int)) (fun _ i => k - (intOf i).toNat)
  case atStart => exact ⟨0, Nat.zero_le _, rfl, rfl⟩
  case round =>
    obtain ⟨q, hq, rfl, rfl⟩ := hrel
    by_cases hlt : q < k
    · have hql : q < L.length := by have := HK.out; omega
      obtain ⟨u, k1, k2⟩ := HG.out q _ (List.getElem?_eq_getElem hql)
      obtain ⟨A, c, rfl⟩ := k2.rd.slice
      have E := Lib.hid (show ((L.take (q + 1)).map List.length).sum = ((L.take q).map List.length).sum + L[q].length by rw [List.take_succ_eq_append_getElem hql, List.map_append, List.sum_append, List.map_cons, List.map_nil, List.sum_cons, List.sum_nil, Nat.add_zero])
      have hT1 := HT.out q
      have hT2 := HT.out (q + 1)
      rw [E.out] at hT2
      generalize L[q].length = lx at *
      generalize ((L.take q).map List.length).sum = s0 at *
      have hqi : (q : Int) < k := by omega
      have hs0 : (s0 : Int) ≤ 1099511627776 := by omega
      have hs1 : (s0 : Int) + (lx : Int) ≤ 1099511627776 := by omega
      have hs2 : ¬ ((s0 : Int) + (lx : Int) < 0) := by omega
      clear k2 hT1 hT2 hql
      go_wp2_with fail
      go_round
      case rel => exact ⟨q + 1, by omega, by go_num, by rw [E.out]; go_num⟩
      case measure => simp [intOf]; omega
    · have hqe : q = k := by omega
      have hqi : ¬ (q : Int) < k := by omega
      subst hqe
      have hqk : L.take q = L := List.take_of_length_le (by have := HK.out; omega)
      have hT1 := HT.out q
      rw [hqk] at hT1 ⊢
      have HGR := Lib.hid (grow_c w _ hT1)
      generalize (L.map List.length).sum = s0 at *
      clear hT1 hqk
      go_wp2_with (first | (go_at_call 105; (with_reducible refine HGR.out.mono ?_); rintro e w1 ⟨v1, rfl, hS⟩; obtain ⟨A1, c1, rfl⟩ := St.rowSlice hS; have H1 := Lib.hid hS; clear hS))
      clear HGR hqi hlt
      go_loopw [6, 27] (fun v i wr => ∃ (q' : Nat) (A : Option Addr) (n c : Nat), q' ≤ q ∧ i = .int .i64 q' ∧ v = .slice A n c ∧ Hid (n = ((L.take q').flatten).length) ∧ Hid (St w wr [aRow 5 1 (.slice A n c) n (cellsB (L.take q').flatten)])) (fun _ i _ => q - (intOf i).toNat)
      case atStart => exact ⟨0, A1, 0, c1, Nat.zero_le _, rfl, rfl, rfl, H1.out⟩
      case round =>
        obtain ⟨q', A2, n2, c2, hq', rfl, rfl, HN, HS⟩ := hrel
        clear H1
        by_cases hlt' : q' < q
        · have hql : q' < L.length := by have := HK.out; omega
          obtain ⟨u, k1, k2⟩ := HG.out q' _ (List.getElem?_eq_getElem hql)
          obtain ⟨A, c, rfl⟩ := k2.rd.slice
          have k1 := HS.out.b.cell k1
          have E := Lib.hid (show (L.take (q' + 1)).flatten = (L.take q').flatten ++ L[q'] by rw [List.take_succ_eq_append_getElem hql, List.flatten_append, List.flatten_cons, List.flatten_nil, List.append_nil])
          have hT2 := HT.out (q' + 1)
          have E2 : ((L.take (q' + 1)).map List.length).sum = (L.take (q' + 1)).flatten.length := by simp [List.length_flatten]
          rw [E2, E.out, List.length_append, ← HN.out] at hT2
          have KR := Lib.hid (k2.later HS.out.b).rd
          have o1 := cellsB_one L[q']
          generalize L[q'] = x at *
          obtain ⟨lx, hlx⟩ : ∃ l, x.length = l := ⟨_, rfl⟩
          rw [hlx] at hT2 KR k1
          have hqi : (q' : Int) < q := by omega
          have g1 : n2 + lx ≤ maxLen := by unfold maxLen; omega
          have g2 : (n2 + lx) * 1 ≤ 140737488355328 := by omega
          have HX := Lib.hid hlx
          clear k2 hT2 hql E2 hlx
          go_wp2_with (at_builtin; refine wpList_append_St rfl (.tmp 31) (.tmp 32) 22 rfl Tryz.underlying22 info5 rfl Nat.zero_lt_one rfl rfl HS.out KR.out o1 g1 g2 ?_; intro A3 c3 w3 hS; have H3 := Lib.hid hS; clear hS)
          go_roundw
          case rel => exact ⟨q' + 1, _, _, _, by omega, by go_num, rfl, by show _ = _; rw [E.out, List.length_append, ← HN.out, HX.out], by rw [E.out, cellsB_app]; exact H3.out⟩
          case measure => simp [intOf]; omega
        · have hqe : q' = q := by omega
          have hqi : ¬ (q' : Int) < q := by omega
          subst hqe
          have E := Lib.hid (show L.take q' = L from List.take_of_length_le (by have := HK.out; omega))
          go_wp2_with fail
          go_ret
          refine ⟨_, rfl, ?_, HS.out.b⟩
          have h1 := HS.out.rowUp
          have h2 := HN.out
          rw [E.out] at h1 h2
          rw [← h2]
          exact h1
section
variable {W w : World} {p m : Nat} {d : Dk} {E : List (Fl × Nat)} {X : List Asn} {n : List UInt8}
theorem set_same {i : Nat} {f : Fl} (hd : d.R[i]? = some f) : ({ d with R := d.R.set i f } : Dk) = d := by
  have : d.R.set i f = d.R := by
    apply List.ext_getElem?
    intro j
    rw [List.getElem?_set]
    split
    · rename_i e
      subst e
      split
      · exact hd.symm
      · rename_i hh; rw [List.getElem?_eq_none (by omega)]
    · rfl
  rw [this]
/-- the file's bytes and what is sure of them turned -/
theorem turn_both {i : Nat} {x : Fl × Nat} {A A' : Option Addr} {c n' c' : Nat} {f' : Fl} (hE : DkE d (m, E)) (hi : E[i]? = some x) (hn : f'.nm = x.1.nm) (hok : ({ d with R := d.R.set i f' } : Dk).ok)
    (h : St W w (aRow 5 1 (.slice A' n' c') n' (cellsB f'.b) :: aBlk x.2 113 #[.slice A x.1.b.length c, .int .i64 (x.1.sure : Int)] :: aRow 5 1 (.slice A x.1.b.length c) x.1.b.length (cellsB x.1.b) :: aBlk p 86 #[.int .i64 d.room, .map (some m), .bool d.off] :: aMap Tryz.prog 9 m (dOf E) :: ((E.take i ++ E.drop (i + 1)).map aFile ++ X))) (hl : n' = f'.b.length) :
    St W ((w.setCell ⟨x.2, 0, none⟩ (.slice A' n' c')).setCell ⟨x.2, 1, none⟩ (.int .i64 (f'.sure : Int))) (aDisk p { d with R := d.R.set i f' } :: X) := by
  subst hl
  have h1 := h.rot3.drop.swap
  have h2 := aBlk.set (aBlk.set h1 0 (.slice A' f'.b.length c')) 1 (.int .i64 (f'.sure : Int))
  exact turn_back hE hi hn hok h2
set_option maxRecDepth 20000 in
theorem trunc_c {k : Int} (h : St W w (aDisk p d :: X)) (hn : n.length ≤ maxLen) (hk : k ≤ 9223372036854775807) : Calls Tryz.prog 90 #[.pointer (some ⟨p, 0, none⟩), .string (bstr n), .int .i64 k] w fun e w' => e = .returned (.int .i64 (truncF d n k).1) ∧ St W w' (aDisk p (truncF d n k).2 :: X) := by
  have H0 := Lib.hid h
  obtain ⟨m, E, hE, h⟩ := aDisk.open_ h
  cases hm : mayF d n with
  | mk o er =>
  cases o with
  | none =>
    have hf : truncF d n k = (er, d) := turn_none hm
    have HF := Lib.hid (find_no h hE hn hm)
    have q1 : (er != 0) = true := by simpa using may_none hm
    rw [hf]
    clear h hE hn hm hf
    go_enter Tryz.func90, Tryz.ntmps90
    go_wp2_with (first | (go_at_call 73; (with_reducible refine HF.out.mono ?_); rintro e w1 ⟨rfl, rfl⟩))
    go_ret
    exact ⟨rfl, H0.out⟩
  | some i =>
    obtain ⟨_, x, hx, _, hd⟩ := may_on hE hm
    have hf := turn_some (g := fun f => if k < 0 ∨ (f.b.length : Int) < k then (1, f) else (0, ⟨f.nm, f.b.take k.toNat, min f.sure k.toNat⟩)) hm hd
    have hok := trunc_ok hE.1 n k
    unfold truncF at hok ⊢
    rw [hf] at hok ⊢
    have HF := Lib.hid (find_yes h hE hn hm hx)
    obtain ⟨A, c, hv⟩ := turn_open h hx
    have hb := aBlk.get hv
    have c0 := hb.cell 0
    simp at c0
    have hxl := small_file hE hx
    by_cases h1 : k < 0
    · rw [if_pos (.inl h1)]
      simp only
      rw [set_same hd]
      obtain ⟨y, g⟩ := x
      simp only at c0 HF
      clear h hE hn hm hf hok hx hd hv hb hk
      go_enter Tryz.func90, Tryz.ntmps90
      go_wp2_with (first | (go_at_call 73; (with_reducible refine HF.out.mono ?_); rintro e w1 ⟨rfl, rfl⟩))
      go_ret
      exact ⟨rfl, H0.out⟩
    · by_cases h2 : (x.1.b.length : Int) < k
      · rw [if_pos (.inr h2)]
        simp only
        rw [set_same hd]
        obtain ⟨y, g⟩ := x
        simp only at c0 HF h2
        clear h hE hn hm hf hok hx hd hv hb hk
        go_enter Tryz.func90, Tryz.ntmps90
        go_wp2_with (first | (go_at_call 73; (with_reducible refine HF.out.mono ?_); rintro e w1 ⟨rfl, rfl⟩))
        go_ret
        exact ⟨rfl, H0.out⟩
      · rw [if_neg (by omega)] at hok ⊢
        simp only at hok ⊢
        obtain ⟨j, rfl⟩ := Int.eq_ofNat_of_zero_le (show 0 ≤ k by omega)
        rw [Int.toNat_natCast] at hok ⊢
        have hjl : j ≤ x.1.b.length := by omega
        obtain ⟨A0, cc, e0, hbs⟩ := file_bs hE hx h
        obtain ⟨rfl, rfl⟩ : A0 = A ∧ cc = c := by rw [c0] at e0; simp at e0; exact ⟨e0.1.symm, e0.2.symm⟩
        obtain ⟨A1, c1, s1, s2, hb1, _⟩ := hbs.cutTo j hjl
        have HC := Lib.hid (sclone_c hb1)
        have HV := Lib.hid (fun (w' : World) (hw : B w w') (v : Value) (hr : w'.ownsRow w.heap.size 5 1 v (x.1.b.take j).length (cellsB (x.1.b.take j))) => (hv.addRow hw hr))
        have HK := Lib.hid (fun (w' : World) (A' : Option Addr) (c' : Nat) (hS : St W w' (aRow 5 1 (.slice A' ((x.1.b.take j).length) c') ((x.1.b.take j).length) (cellsB (x.1.b.take j)) :: aBlk x.2 113 #[.slice A0 x.1.b.length cc, .int .i64 (x.1.sure : Int)] :: aRow 5 1 (.slice A0 x.1.b.length cc) x.1.b.length (cellsB x.1.b) :: aBlk p 86 #[.int .i64 d.room, .map (some m), .bool d.off] :: aMap Tryz.prog 9 m (dOf E) :: ((E.take i ++ E.drop (i + 1)).map aFile ++ X))) => turn_both (w := w') (A' := A') (c' := c') (n' := (x.1.b.take j).length) (f' := ⟨x.1.nm, x.1.b.take j, min x.1.sure j⟩) hE hx rfl hok hS rfl)
        have HB := Lib.hid (fun (w' : World) (hw : B w w') => show w'.cell? ⟨x.2, 0, none⟩ = some (.slice A0 x.1.b.length cc) ∧ w'.cell? ⟨x.2, 1, none⟩ = some (.int .i64 (x.1.sure : Int)) ∧ w'.frozen? ⟨x.2, 0, none⟩ = false ∧ w'.frozen? ⟨x.2, 1, none⟩ = false from by
          have hb2 := hb.later hw
          have k0 := hb2.cell 0
          have k1 := hb2.cell 1
          simp at k0 k1
          exact ⟨k0, k1, hb2.frozen 0, hb2.frozen 1⟩)
        have hl : (x.1.b.take j).length = j := by rw [List.length_take]; omega
        simp only [hl] at HK
        have HLJ := Lib.hid hl
        obtain ⟨y, g⟩ := x
        simp only at c0 HF h2 HV HK HB hxl s1 s2 HLJ
        have hj63 : (j : Int) ≤ 9223372036854775807 := hk
        by_cases hms : (y.sure : Int) ≤ j
        case' pos =>
          rw [show min y.sure j = y.sure by omega] at HK
          rw [show (min y.sure j) = y.sure by omega]
        case' neg =>
          rw [show min y.sure j = j by omega] at HK
          rw [show (min y.sure j) = j by omega]
        all_goals
          clear h hE hn hm hf hok hx hd hv hb hb1 hbs hk hl hjl e0
          go_enter Tryz.func90, Tryz.ntmps90
          go_wp2_with (first
            | (go_at_call 73; (with_reducible refine HF.out.mono ?_); rintro e w1 ⟨rfl, rfl⟩)
            | (go_at_call 32; (with_reducible refine HC.out.mono ?_); rintro e w2 ⟨v2, rfl, r2, hb2⟩; obtain ⟨k0, k1, f0, f1⟩ := HB.out _ hb2; have hS := HV.out _ hb2 _ r2; simp only [HLJ.out] at hS; obtain ⟨A2, c2, rfl⟩ := St.rowSlice hS; have H2 := Lib.hid hS; clear r2 hb2 hS c0))
          go_ret
          exact ⟨rfl, HK.out _ _ _ H2.out⟩
end
end Go.Proofs.YtnpjfjgnhadmjaaGreatDoor

/- Write of a disk. -/
namespace Go.Proofs.YtnpjfjgnhadmjaaGreatDoor
open Go.RowKit Go.Maps Go.Deep
set_option linter.unusedVariables false

section
variable {W w : World} {p m : Nat} {d : Dk} {E : List (Fl × Nat)} {X : List Asn} {n : List UInt8}
theorem cells_three (w : World) (a b c : Value) (T : TypeId) {x y z : List UInt8} (ha : Bs w a x) (hb : Bs w b y) (hc : Bs w c z) :
    ∀ (j : Nat) (s : List UInt8), [x, y, z][j]? = some s → ∃ u, (w.alloc (.cells #[a, b, c] T)).cell? ⟨w.heap.size, j, none⟩ = some u ∧ Bs (w.alloc (.cells #[a, b, c] T)) u s := by
  intro j s hj
  have hB := B.alloc' w (.cells #[a, b, c] T)
  have hk := Blk.new w T #[a, b, c]
  match j, hj with
  | 0, hj => simp at hj; subst hj; exact ⟨a, by rw [hk.cell]; rfl, ha.later hB⟩
  | 1, hj => simp at hj; subst hj; exact ⟨b, by rw [hk.cell]; rfl, hb.later hB⟩
  | 2, hj => simp at hj; subst hj; exact ⟨c, by rw [hk.cell]; rfl, hc.later hB⟩
  | k + 3, hj => simp at hj
theorem wrap_sub {a b : Int} (h : -9223372036854775808 ≤ a - b) (h2 : a - b ≤ 9223372036854775807) : IntKind.i64.wrap (a - b) = a - b := by
  simp [IntKind.wrap, IntKind.signed, IntKind.bits]; omega
theorem wrap_add {a b : Int} (h : -9223372036854775808 ≤ a + b) (h2 : a + b ≤ 9223372036854775807) : IntKind.i64.wrap (a + b) = a + b := by
  simp [IntKind.wrap, IntKind.signed, IntKind.bits]; omega
set_option maxRecDepth 20000 in
set_option maxHeartbeats 4000000 in
theorem write_c {k : Int} {u : Value} {b : List UInt8} (h : St W w (aDisk p d :: X)) (hn : n.length ≤ maxLen) (hu : Bs w u b) (hbl : b.length ≤ 4194304000) : Calls Tryz.prog 36 #[.pointer (some ⟨p, 0, none⟩), .string (bstr n), .int .i64 k, u] w fun e w' => e = .returned (.int .i64 (writeF d n k b).1) ∧ St W w' (aDisk p (writeF d n k b).2 :: X) := by
  have H0 := Lib.hid h
  obtain ⟨m, E, hE, h⟩ := aDisk.open_ h
  obtain ⟨Au, cu, hus⟩ := hu.rd.slice
  obtain ⟨lb, hlb⟩ : ∃ l, b.length = l := ⟨_, rfl⟩
  rw [hlb] at hus hbl
  subst hus
  cases hm : mayF d n with
  | mk o er =>
  cases o with
  | none =>
    have hf : writeF d n k b = (er, d) := turn_none hm
    have HF := Lib.hid (find_no h hE hn hm)
    have q1 : (er != 0) = true := by simpa using may_none hm
    rw [hf]
    clear h hE hn hm hf hu
    go_enter Tryz.func36, Tryz.ntmps36
    go_wp2_with (first | (go_at_call 73; (with_reducible refine HF.out.mono ?_); rintro e w1 ⟨rfl, rfl⟩))
    go_ret
    exact ⟨rfl, H0.out⟩
  | some i =>
    obtain ⟨_, x, hx, _, hd⟩ := may_on hE hm
    have hf := turn_some (g := writeB d k b) hm hd
    have hok := write_ok hE.1 n k b
    unfold writeF at hok ⊢
    rw [hf] at hok ⊢
    unfold writeB at hok ⊢
    rw [hlb] at hok ⊢
    have HF := Lib.hid (find_yes h hE hn hm hx)
    obtain ⟨A, c, hv⟩ := turn_open h hx
    have hb := aBlk.get hv
    have c0 := hb.cell 0
    simp at c0
    have hxl := small_file hE hx
    by_cases h1 : k < 0
    · rw [if_pos (.inl h1)]
      simp only
      rw [set_same hd]
      obtain ⟨y, g⟩ := x
      simp only at c0 HF
      clear h hE hn hm hf hok hx hd hv hb hu hlb
      go_enter Tryz.func36, Tryz.ntmps36
      go_wp2_with (first | (go_at_call 73; (with_reducible refine HF.out.mono ?_); rintro e w1 ⟨rfl, rfl⟩))
      go_ret
      exact ⟨rfl, H0.out⟩
    · by_cases h2 : (x.1.b.length : Int) < k
      · rw [if_pos (.inr h2)]
        simp only
        rw [set_same hd]
        obtain ⟨y, g⟩ := x
        simp only at c0 HF h2
        clear h hE hn hm hf hok hx hd hv hb hu hlb
        go_enter Tryz.func36, Tryz.ntmps36
        go_wp2_with (first | (go_at_call 73; (with_reducible refine HF.out.mono ?_); rintro e w1 ⟨rfl, rfl⟩))
        go_ret
        exact ⟨rfl, H0.out⟩
      · rw [if_neg (by omega)] at hok ⊢
        obtain ⟨j, rfl⟩ := Int.eq_ofNat_of_zero_le (show 0 ≤ k by omega)
        rw [Int.toNat_natCast] at hok ⊢
        have hjl : j ≤ x.1.b.length := by omega
        have HR := Lib.hid (fun (w' : World) (hw : B w w') => room_c (h.later hw) hE)
        have hw1 : IntKind.i64.wrap ((x.1.b.length : Int) - (j : Int)) = (x.1.b.length : Int) - (j : Int) := wrap_sub (by omega) (by omega)
        have hw2 : IntKind.i64.wrap ((lb : Int) - ((x.1.b.length : Int) - (j : Int))) = (lb : Int) - ((x.1.b.length : Int) - (j : Int)) := wrap_sub (by omega) (by omega)
        have l0 : ∀ w', B w w' → w'.cell? ⟨x.2, 0, none⟩ = some (.slice A x.1.b.length c) := fun w' hw => hw.cell c0
        by_cases h3 : d.room - usedF d.R < (lb : Int) - ((x.1.b.length : Int) - (j : Int))
        · rw [if_pos h3]
          simp only
          rw [set_same hd]
          obtain ⟨y, g⟩ := x
          simp only at c0 HF h2 hw1 hw2 l0 h3 hxl hjl
          have hyl : (y.b.length : Int) ≤ 4194304 := by omega
          clear h hE hn hm hf hok hx hd hv hb hu hlb
          go_enter Tryz.func36, Tryz.ntmps36
          go_wp2_with (first | (go_at_call 73; (with_reducible refine HF.out.mono ?_); rintro e w1 ⟨rfl, rfl⟩))
          go_region_held3 (fun w' => B w w') (first | assumption | exact (Below.refl _ _).drew | exact B.trans (by assumption) hb2 | exact B.trans (by assumption) (Below.refl _ _).drew) (first
            | (go_at_call 74; (with_reducible refine (HR.out _ (by assumption)).mono ?_); rintro e w2 ⟨rfl, hb2⟩))
          all_goals
            have hlast := ‹B w _›
            go_wp2_with fail
            go_ret
            exact ⟨rfl, H0.out.later hlast⟩
        · rw [if_neg h3] at hok ⊢
          simp only at hok ⊢
          obtain ⟨A0, cc, e0, hbs⟩ := file_bs hE hx h
          obtain ⟨rfl, rfl⟩ : A0 = A ∧ cc = c := by rw [c0] at e0; simp at e0; exact ⟨e0.1.symm, e0.2.symm⟩
          obtain ⟨A1, c1, s1, s2, hb1, _⟩ := hbs.cutTo j hjl
          -- the place behind which the file stays
          obtain ⟨r, hr⟩ : ∃ r, r = min x.1.b.length (j + lb) := ⟨_, rfl⟩
          obtain ⟨A2, c2, s3, s4, hb2, _⟩ := hbs.cut r (by omega)
          have hdr : x.1.b.drop r = x.1.b.drop (j + lb) := by
            rcases Nat.le_total x.1.b.length (j + lb) with hle | hle
            · rw [List.drop_eq_nil_of_le (show x.1.b.length ≤ r by omega), List.drop_eq_nil_of_le hle]
            · rw [show r = j + lb by omega]
          have HC := Lib.hid (fun (w3 : World) (hw : B w w3) => show Calls Tryz.prog 75 #[.slice (some ⟨w3.heap.size, 0, none⟩) 3 3] (w3.alloc (.cells #[.slice A1 j c1, .slice Au lb cu, .slice A2 (x.1.b.length - r) c2] 22)) (ClonePost (w3.alloc (.cells #[.slice A1 j c1, .slice Au lb cu, .slice A2 (x.1.b.length - r) c2] 22)) (x.1.b.take j ++ b ++ x.1.b.drop (j + lb))) from by
            have := concat_c (L := [x.1.b.take j, b, x.1.b.drop r]) (k := 3) rfl (by omega) (cells_three w3 _ _ _ 22 (hb1.later hw) (hu.later hw) (hb2.later hw)) (by simp; omega)
            rw [show [x.1.b.take j, b, x.1.b.drop r].flatten = x.1.b.take j ++ b ++ x.1.b.drop (j + lb) by simp [hdr]] at this
            exact this)
          have HV := Lib.hid (fun (w3 w4 : World) (hw : B w w3) (hw4 : B w3 w4) (v : Value) (hr : w4.ownsRow w3.heap.size 5 1 v (x.1.b.take j ++ b ++ x.1.b.drop (j + lb)).length (cellsB (x.1.b.take j ++ b ++ x.1.b.drop (j + lb)))) => ((hv.later hw).addRow hw4 hr))
          obtain ⟨nb, hnb⟩ : ∃ nb, x.1.b.take j ++ b ++ x.1.b.drop (j + lb) = nb := ⟨_, rfl⟩
          rw [hnb] at HC HV hok
          rw [hnb]
          have HK := Lib.hid (fun (w' : World) (A' : Option Addr) (c' : Nat) (hS : St W w' (aRow 5 1 (.slice A' nb.length c') nb.length (cellsB nb) :: aBlk x.2 113 #[.slice A0 x.1.b.length cc, .int .i64 (x.1.sure : Int)] :: aRow 5 1 (.slice A0 x.1.b.length cc) x.1.b.length (cellsB x.1.b) :: aBlk p 86 #[.int .i64 d.room, .map (some m), .bool d.off] :: aMap Tryz.prog 9 m (dOf E) :: ((E.take i ++ E.drop (i + 1)).map aFile ++ X))) => turn_both (w := w') (A' := A') (c' := c') (n' := nb.length) (f' := ⟨x.1.nm, nb, min x.1.sure j⟩) hE hx rfl hok hS rfl)
          have HB := Lib.hid (fun (w' : World) (hw : B w w') => show w'.cell? ⟨x.2, 0, none⟩ = some (.slice A0 x.1.b.length cc) ∧ w'.cell? ⟨x.2, 1, none⟩ = some (.int .i64 (x.1.sure : Int)) ∧ w'.frozen? ⟨x.2, 0, none⟩ = false ∧ w'.frozen? ⟨x.2, 1, none⟩ = false from by
            have hb2 := hb.later hw
            have k0 := hb2.cell 0
            have k1 := hb2.cell 1
            simp at k0 k1
            exact ⟨k0, k1, hb2.frozen 0, hb2.frozen 1⟩)
          have hw3 : IntKind.i64.wrap ((j : Int) + (lb : Int)) = (j : Int) + (lb : Int) := wrap_add (by omega) (by omega)
          have hrl := hr
          by_cases hmin : (x.1.b.length : Int) ≤ (j : Int) + (lb : Int)
          case' pos => rw [show (r : Int) = (x.1.b.length : Int) by omega] at s3 s4
          case' neg => rw [show (r : Int) = (j : Int) + (lb : Int) by omega] at s3 s4
          all_goals
            obtain ⟨y, g⟩ := x
            simp only at c0 HF h2 hw1 hw2 l0 h3 hxl hjl HC HV HK HB hmin s1 s2 s3 s4
            have hyl : (y.b.length : Int) ≤ 4194304 := by omega
            have hsj : min y.sure j = if y.sure ≤ j then y.sure else j := by split <;> omega
            by_cases hms : (y.sure : Int) ≤ j
            case' pos =>
              rw [show min y.sure j = y.sure by omega] at HK
              rw [show (min y.sure j) = y.sure by omega]
            case' neg =>
              rw [show min y.sure j = j by omega] at HK
              rw [show (min y.sure j) = j by omega]
          all_goals
            clear h hE hn hm hf hok hx hd hv hb hb1 hb2 hbs hu hlb e0 hsj hr hrl hdr hnb
            go_enter Tryz.func36, Tryz.ntmps36
            go_wp2_with (first | (go_at_call 73; (with_reducible refine HF.out.mono ?_); rintro e w1 ⟨rfl, rfl⟩))
            go_region_held3 (fun w' => B w w') (first | assumption | exact (Below.refl _ _).drew | exact B.trans (by assumption) hb2 | exact B.trans (by assumption) (Below.refl _ _).drew) (first
              | (go_at_call 74; (with_reducible refine (HR.out _ (by assumption)).mono ?_); rintro e w2 ⟨rfl, hb2⟩))
          all_goals
            go_wp2_with fail
            have hlast := ‹B w _›
            obtain ⟨k0, k1, f0, f1⟩ := HB.out _ hlast
            have HL := Lib.hid (fun n => B.trans hlast (B.drewN' n))
            have HCD := Lib.hid (fun n => show Calls Tryz.prog 75 #[.slice (some ⟨w2.heap.size, 0, none⟩) 3 3] ((w2.drewN n).alloc (.cells #[.slice A1 j c1, .slice Au lb cu, .slice A2 (y.b.length - r) c2] 22)) (ClonePost ((w2.drewN n).alloc (.cells #[.slice A1 j c1, .slice Au lb cu, .slice A2 (y.b.length - r) c2] 22)) nb) from HC.out (w2.drewN n) (HL.out n))
            go_quiet (fail)
            go_wp2_with (first
              | (go_at_call 75; (with_reducible refine (HCD.out _).mono ?_); rintro e w4 ⟨v4, rfl, r4, hb4⟩; obtain ⟨k0', k1', f0', f1'⟩ := HB.out _ (((HL.out _).trans (B.alloc' _ _)).trans hb4); have hS := HV.out _ _ (HL.out _) ((B.alloc' _ _).trans hb4) _ (row_base r4 (by simp)); obtain ⟨A4, c4, rfl⟩ := St.rowSlice hS; have H4 := Lib.hid hS; clear r4 hb4 hS k0 k1 f0 f1))
            go_ret
            exact ⟨rfl, HK.out _ _ _ H4.out⟩
end
end Go.Proofs.YtnpjfjgnhadmjaaGreatDoor
