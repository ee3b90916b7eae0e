/- The law's 'asks' of chapter 1: whatever is asked of the two readers, they answer alike. -/
import Derived.Test.YthgpkbhilkdckaaDe
import Derived.Test.YthgpkbhilkdckaaDb
namespace Go.Proofs.Ythgpkbhilkdckaa
open Go.RowKit
set_option linter.unusedVariables false

section
variable {W w : World} {L : List Asn}
theorem Sep.mem {A : Asn} : ∀ {U : Nat → Prop} {L : List Asn}, Sep w U L → A ∈ L → ∃ own, A.at_ own w
  | _, [], _, h => by cases h
  | U, C :: L, ⟨o, h1, h2, h3⟩, h => by
    rcases List.mem_cons.1 h with e | e
    · subst e; exact ⟨o, h2⟩
    · exact Sep.mem h3 e
theorem St.cellOf {g : Nat} {t : TypeId} {cs : Array Value} (h : St W w L) (hm : aBlk g t cs ∈ L) (i : Nat) : w.cell? ⟨g, i, none⟩ = cs[i]? := by
  obtain ⟨own, h1, h2⟩ := h.2.mem hm
  exact h2.cell i
theorem St.rot4 {A C D E : Asn} (h : St W w (A :: C :: D :: E :: L)) : St W w (E :: A :: C :: D :: L) := by
  obtain ⟨hb, o, h1, h2, h3⟩ := h
  exact St.swap ⟨hb, o, h1, h2, (St.rot3' h3)⟩
where
  St.rot3' {U : Nat → Prop} {A C D : Asn} {L : List Asn} (h : Sep w U (A :: C :: D :: L)) : Sep w U (D :: A :: C :: L) := by
    obtain ⟨o, h1, h2, h3⟩ := h
    exact Sep.swap ⟨o, h1, h2, h3.swap⟩
theorem St.plLss {v : Value} {M : List (List UInt8)} (h : St W w (aPl v M :: L)) : ∃ own, Lss own w v M := by
  obtain ⟨own, ⟨vs, ⟨h1, h2⟩, h3⟩, ho⟩ := h.get
  exact ⟨own, Lss.of_own h1 h3 h2⟩
end
/-- what one ask leaves of the bytes and the error -/
def askS (bs : List UInt8) (e d : Int) (m : Nat) (n k c : Int) : List UInt8 × Int :=
  if d = 0 then (numS bs e m).2 else if d = 1 then (takeS bs e n).2 else if d = 2 then (bytesS bs e n).2 else if d = 3 then (listS bs e n k).2 else (failB bs e c, failE e c)
def AskPost (W : World) (p p2 : Nat) (L : List Asn) (r : List UInt8 × Int) (e' : Ending) (w' : World) : Prop :=
  e' = .returned (.bool true) ∧ St W w' (aRd p r.1 r.2 :: aRr W p2 r.1 r.2 :: L)
section
variable {W w : World} {p p2 : Nat} {bs : List UInt8} {e : Int} {L : List Asn}
set_option maxRecDepth 20000 in
set_option maxHeartbeats 4000000 in
theorem St.ask_num (h : St W w (aRd p bs e :: aRr W p2 bs e :: L))  (m : Nat) (n k c : Int) :
    Calls Try.prog 79 #[.pointer (some ⟨p, 0, none⟩), .pointer (some ⟨p2, 0, none⟩), .agg #[.int .i64 0, .int .u64 (m : Int), .int .i64 n, .int .i64 k, .int .i64 c]] w (AskPost W p p2 L ((numS bs e m).2)) := by
  have H0 := Lib.hid ((aBlk.new h 87 #[.int .i64 0, .int .u64 (m : Int), .int .i64 n, .int .i64 k, .int .i64 c]).later (Below.refl _ _).drew)
  clear h
  go_enter Try.func79, Try.ntmps79
  go_wp2_with fail
  generalize w.heap.size = g at *
  generalize w.alloc (.cells #[.int .i64 0, .int .u64 (m : Int), .int .i64 n, .int .i64 k, .int .i64 c] 87) = w0 at *
  have k01 : w0.drew.cell? ⟨g, 1, none⟩ = some (.int .u64 (m : Int)) := H0.out.cellOf (g := g) (t := 87) (cs := #[.int .i64 0, .int .u64 (m : Int), .int .i64 n, .int .i64 k, .int .i64 c]) (by simp) 1
  go_region_held3 (fun w' => w'.cell? ⟨g, 1, none⟩ = some (.int .u64 (m : Int))) (assumption) (first
    | (go_at_call 85; (with_reducible refine (St.num85 H0.out.swap m).mono ?_); rintro e w1 ⟨rfl, hS⟩; have H1 := Lib.hid hS; have k11 := hS.cellOf (g := g) (t := 87) (cs := #[.int .i64 0, .int .u64 (m : Int), .int .i64 n, .int .i64 k, .int .i64 c]) (by simp) 1; simp at k11; clear hS)
    | (go_at_call 117; (with_reducible refine (St.num117 H1.out.rot3 m).mono ?_); rintro e w2 ⟨rfl, hS⟩; have H2 := Lib.hid hS; have k21 := hS.cellOf (g := g) (t := 87) (cs := #[.int .i64 0, .int .u64 (m : Int), .int .i64 n, .int .i64 k, .int .i64 c]) (by simp) 1; simp at k21; clear hS))
  all_goals
    go_wp2_with fail
    go_ret
    exact ⟨by simp, H2.out.rot3.drop.swap⟩
set_option maxRecDepth 20000 in
set_option maxHeartbeats 4000000 in
theorem St.ask_take (h : St W w (aRd p bs e :: aRr W p2 bs e :: L))  (m : Nat) (n k c : Int) (hn : -9223372036854775808 ≤ n ∧ n ≤ 9223372036854775807) (hbl : bs.length ≤ 1048576) :
    Calls Try.prog 79 #[.pointer (some ⟨p, 0, none⟩), .pointer (some ⟨p2, 0, none⟩), .agg #[.int .i64 1, .int .u64 (m : Int), .int .i64 n, .int .i64 k, .int .i64 c]] w (AskPost W p p2 L ((takeS bs e n).2)) := by
  have H0 := Lib.hid ((aBlk.new h 87 #[.int .i64 1, .int .u64 (m : Int), .int .i64 n, .int .i64 k, .int .i64 c]).later (Below.refl _ _).drew)
  clear h
  have HN := Lib.hid hn
  have HBL := Lib.hid hbl
  clear hn hbl
  have LB := Lib.hid (show (takeS bs e n).1.length ≤ big by have := takeS_len bs e n; have := HBL.out; unfold big; omega)
  go_enter Try.func79, Try.ntmps79
  go_wp2_with fail
  generalize w.heap.size = g at *
  generalize w.alloc (.cells #[.int .i64 1, .int .u64 (m : Int), .int .i64 n, .int .i64 k, .int .i64 c] 87) = w0 at *
  have k02 : w0.drew.cell? ⟨g, 2, none⟩ = some (.int .i64 n) := H0.out.cellOf (g := g) (t := 87) (cs := #[.int .i64 1, .int .u64 (m : Int), .int .i64 n, .int .i64 k, .int .i64 c]) (by simp) 2
  go_region_held3 (fun w' => w'.cell? ⟨g, 2, none⟩ = some (.int .i64 n)) (assumption) (first
    | (go_at_call 86; (with_reducible refine (St.take86 H0.out.swap n HN.out).mono ?_); rintro e w1 ⟨v1, rfl, hS⟩; have H1 := Lib.hid hS; have k12 := hS.cellOf (g := g) (t := 87) (cs := #[.int .i64 1, .int .u64 (m : Int), .int .i64 n, .int .i64 k, .int .i64 c]) (by simp) 2; simp at k12; clear hS)
    | (go_at_call 118; (with_reducible refine (St.take118 H1.out.rot4 n HN.out).mono ?_); rintro e w2 ⟨v2, rfl, hS⟩; have H2 := Lib.hid hS; have k22 := hS.cellOf (g := g) (t := 87) (cs := #[.int .i64 1, .int .u64 (m : Int), .int .i64 n, .int .i64 k, .int .i64 c]) (by simp) 2; simp at k22; clear hS)
    | (go_at_call 68; (with_reducible refine (equal68 (H2.out.rot3.byBs LB.out) (H2.out.byBs LB.out)).mono ?_); rintro e w3 ⟨rfl, rfl⟩; simp only [beq_self_eq_true]))
  all_goals
    go_wp2_with fail
    go_ret
    exact ⟨by simp, H2.out.drop.drop2.rot3.drop.swap⟩
set_option maxRecDepth 20000 in
set_option maxHeartbeats 4000000 in
theorem St.ask_bytes (h : St W w (aRd p bs e :: aRr W p2 bs e :: L))  (m : Nat) (n k c : Int) (hn : -9223372036854775808 ≤ n ∧ n ≤ 9223372036854775807) (hbl : bs.length ≤ 1048576) :
    Calls Try.prog 79 #[.pointer (some ⟨p, 0, none⟩), .pointer (some ⟨p2, 0, none⟩), .agg #[.int .i64 2, .int .u64 (m : Int), .int .i64 n, .int .i64 k, .int .i64 c]] w (AskPost W p p2 L ((bytesS bs e n).2)) := by
  have H0 := Lib.hid ((aBlk.new h 87 #[.int .i64 2, .int .u64 (m : Int), .int .i64 n, .int .i64 k, .int .i64 c]).later (Below.refl _ _).drew)
  clear h
  have HN := Lib.hid hn
  have HBL := Lib.hid hbl
  clear hn hbl
  have LB := Lib.hid (show (bytesS bs e n).1.length ≤ big by have := bytesS_all bs e n; have := HBL.out; unfold big; omega)
  go_enter Try.func79, Try.ntmps79
  go_wp2_with fail
  generalize w.heap.size = g at *
  generalize w.alloc (.cells #[.int .i64 2, .int .u64 (m : Int), .int .i64 n, .int .i64 k, .int .i64 c] 87) = w0 at *
  have k02 : w0.drew.cell? ⟨g, 2, none⟩ = some (.int .i64 n) := H0.out.cellOf (g := g) (t := 87) (cs := #[.int .i64 2, .int .u64 (m : Int), .int .i64 n, .int .i64 k, .int .i64 c]) (by simp) 2
  go_region_held3 (fun w' => w'.cell? ⟨g, 2, none⟩ = some (.int .i64 n)) (assumption) (first
    | (go_at_call 87; (with_reducible refine (St.bytes87 H0.out.swap n HN.out.2).mono ?_); rintro e w1 ⟨v1, rfl, hS⟩; have H1 := Lib.hid hS; have k12 := hS.cellOf (g := g) (t := 87) (cs := #[.int .i64 2, .int .u64 (m : Int), .int .i64 n, .int .i64 k, .int .i64 c]) (by simp) 2; simp at k12; clear hS)
    | (go_at_call 119; (with_reducible refine (St.bytes119 H1.out.rot4 n HN.out.2).mono ?_); rintro e w2 ⟨v2, rfl, hS⟩; have H2 := Lib.hid hS; have k22 := hS.cellOf (g := g) (t := 87) (cs := #[.int .i64 2, .int .u64 (m : Int), .int .i64 n, .int .i64 k, .int .i64 c]) (by simp) 2; simp at k22; clear hS)
    | (go_at_call 68; (with_reducible refine (equal68 (H2.out.rot3.byBs LB.out) (H2.out.byBs LB.out)).mono ?_); rintro e w3 ⟨rfl, rfl⟩; simp only [beq_self_eq_true]))
  all_goals
    go_wp2_with fail
    go_ret
    exact ⟨by simp, H2.out.drop.drop2.rot3.drop.swap⟩
set_option maxRecDepth 20000 in
set_option maxHeartbeats 4000000 in
theorem St.ask_list (h : St W w (aRd p bs e :: aRr W p2 bs e :: L))  (m : Nat) (n k c : Int) (hn : -9223372036854775808 ≤ n ∧ n ≤ 9223372036854775807) (hk : k ≤ 9223372036854775807) (hbl : bs.length ≤ 1048576) :
    Calls Try.prog 79 #[.pointer (some ⟨p, 0, none⟩), .pointer (some ⟨p2, 0, none⟩), .agg #[.int .i64 3, .int .u64 (m : Int), .int .i64 n, .int .i64 k, .int .i64 c]] w (AskPost W p p2 L ((listS bs e n k).2)) := by
  have H0 := Lib.hid ((aBlk.new h 87 #[.int .i64 3, .int .u64 (m : Int), .int .i64 n, .int .i64 k, .int .i64 c]).later (Below.refl _ _).drew)
  clear h
  have HN := Lib.hid hn
  have HBL := Lib.hid hbl
  clear hn hbl
  have HK := Lib.hid hk
  have HBB := Lib.hid (show bs.length ≤ 1099511627775 by have := HBL.out; omega)
  clear hk
  go_enter Try.func79, Try.ntmps79
  go_wp2_with fail
  generalize w.heap.size = g at *
  generalize w.alloc (.cells #[.int .i64 3, .int .u64 (m : Int), .int .i64 n, .int .i64 k, .int .i64 c] 87) = w0 at *
  have k02 : w0.drew.cell? ⟨g, 2, none⟩ = some (.int .i64 n) := H0.out.cellOf (g := g) (t := 87) (cs := #[.int .i64 3, .int .u64 (m : Int), .int .i64 n, .int .i64 k, .int .i64 c]) (by simp) 2
  have k03 : w0.drew.cell? ⟨g, 3, none⟩ = some (.int .i64 k) := H0.out.cellOf (g := g) (t := 87) (cs := #[.int .i64 3, .int .u64 (m : Int), .int .i64 n, .int .i64 k, .int .i64 c]) (by simp) 3
  go_region_held3 (fun w' => w'.cell? ⟨g, 2, none⟩ = some (.int .i64 n) ∧ w'.cell? ⟨g, 3, none⟩ = some (.int .i64 k)) (first | assumption | (refine ⟨?_, ?_⟩ <;> assumption)) (first
    | (go_at_call 88; (with_reducible refine (St.list88 H0.out.swap n k HN.out.2 HK.out HBB.out).mono ?_); rintro e w1 ⟨v1, rfl, hS⟩; have H1 := Lib.hid hS; have k12 := hS.cellOf (g := g) (t := 87) (cs := #[.int .i64 3, .int .u64 (m : Int), .int .i64 n, .int .i64 k, .int .i64 c]) (by simp) 2; simp at k12; have k13 := hS.cellOf (g := g) (t := 87) (cs := #[.int .i64 3, .int .u64 (m : Int), .int .i64 n, .int .i64 k, .int .i64 c]) (by simp) 3; simp at k13; clear hS)
    | (go_at_call 120; (with_reducible refine (St.list120 H1.out.rot4 n k HN.out.2 HK.out HBB.out).mono ?_); rintro e w2 ⟨v2, rfl, hS⟩; have H2 := Lib.hid hS; obtain ⟨o1, hl1⟩ := hS.plLss; obtain ⟨o2, hl2⟩ := hS.rot3.plLss; have HL1 := Lib.hid hl1; have HL2 := Lib.hid hl2; have k22 := hS.cellOf (g := g) (t := 87) (cs := #[.int .i64 3, .int .u64 (m : Int), .int .i64 n, .int .i64 k, .int .i64 c]) (by simp) 2; simp at k22; have k23 := hS.cellOf (g := g) (t := 87) (cs := #[.int .i64 3, .int .u64 (m : Int), .int .i64 n, .int .i64 k, .int .i64 c]) (by simp) 3; simp at k23; clear hS hl1 hl2)
    | (go_at_call 90; (with_reducible refine (same90 HL2.out HL1.out).mono ?_); rintro e w3 ⟨rfl, hb3⟩; have H3 := Lib.hid (H2.out.later hb3); have hS := H3.out; have k31 := hS.cellOf (g := g) (t := 87) (cs := #[.int .i64 3, .int .u64 (m : Int), .int .i64 n, .int .i64 k, .int .i64 c]) (by simp) 2; have k32 := hS.cellOf (g := g) (t := 87) (cs := #[.int .i64 3, .int .u64 (m : Int), .int .i64 n, .int .i64 k, .int .i64 c]) (by simp) 3; simp at k31 k32; clear hS hb3))
  all_goals
    go_wp2_with fail
    go_ret
    exact ⟨by simp, H3.out.drop.drop2.rot3.drop.swap⟩
set_option maxRecDepth 20000 in
set_option maxHeartbeats 4000000 in
theorem St.ask_fail (h : St W w (aRd p bs e :: aRr W p2 bs e :: L)) (d : Int) (hd : d ≠ 0 ∧ d ≠ 1 ∧ d ≠ 2 ∧ d ≠ 3) (m : Nat) (n k c : Int) :
    Calls Try.prog 79 #[.pointer (some ⟨p, 0, none⟩), .pointer (some ⟨p2, 0, none⟩), .agg #[.int .i64 d, .int .u64 (m : Int), .int .i64 n, .int .i64 k, .int .i64 c]] w (AskPost W p p2 L (failB bs e c, failE e c)) := by
  have H0 := Lib.hid (aBlk.new h 87 #[.int .i64 d, .int .u64 (m : Int), .int .i64 n, .int .i64 k, .int .i64 c])
  have q0 : (d == 0) = false := by simp [hd.1]
  have q1 : (d == 1) = false := by simp [hd.2.1]
  have q2 : (d == 2) = false := by simp [hd.2.2.1]
  have q3 : (d == 3) = false := by simp [hd.2.2.2]
  clear h hd
  go_enter Try.func79, Try.ntmps79
  go_wp2_with (first
    | (go_at_call 84; (with_reducible refine (St.fail84 H0.out.swap c).mono ?_); rintro e w1 ⟨rfl, hS⟩; have H1 := Lib.hid hS; have k1 := hS.cellOf (g := w.heap.size) (t := 87) (cs := #[.int .i64 d, .int .u64 (m : Int), .int .i64 n, .int .i64 k, .int .i64 c]) (by simp) 4; simp at k1; clear hS)
    | (go_at_call 121; (with_reducible refine (St.fail121 H1.out.rot3 c).mono ?_); rintro e w2 ⟨rfl, hS⟩; have H2 := Lib.hid hS; clear hS))
  go_ret
  exact ⟨rfl, H2.out.rot3.drop.swap⟩
theorem St.asks79 (h : St W w (aRd p bs e :: aRr W p2 bs e :: L)) (d : Int) (m : Nat) (n k c : Int) (hn : -9223372036854775808 ≤ n ∧ n ≤ 9223372036854775807) (hk : k ≤ 9223372036854775807) (hbl : bs.length ≤ 1048576) :
    Calls Try.prog 79 #[.pointer (some ⟨p, 0, none⟩), .pointer (some ⟨p2, 0, none⟩), .agg #[.int .i64 d, .int .u64 (m : Int), .int .i64 n, .int .i64 k, .int .i64 c]] w (AskPost W p p2 L (askS bs e d m n k c)) := by
  unfold askS
  by_cases h0 : d = 0
  · subst h0; exact h.ask_num m n k c
  · rw [if_neg h0]
    by_cases h1 : d = 1
    · subst h1; exact h.ask_take m n k c hn hbl
    · rw [if_neg h1]
      by_cases h2 : d = 2
      · subst h2; exact h.ask_bytes m n k c hn hbl
      · rw [if_neg h2]
        by_cases h3 : d = 3
        · subst h3; exact h.ask_list m n k c hn hk hbl
        · rw [if_neg h3]; exact h.ask_fail d ⟨h0, h1, h2, h3⟩ m n k c
end
end Go.Proofs.Ythgpkbhilkdckaa
