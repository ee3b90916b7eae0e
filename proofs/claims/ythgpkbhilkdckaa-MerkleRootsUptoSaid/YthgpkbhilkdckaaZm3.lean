/- Lemmas and contracts, part 3. -/
import Derived.Test.YthgpkbhilkdckaaZm2
import Derived.Laws.EntriesVeiled
/- The law's 'asks' of chapter 1: whatever is asked of the two readers, they answer alike. -/
namespace Go.Proofs.Ythgpkbhilkdckaa
open Go.RowKit
set_option linter.unusedVariables false

section
variable {W w : World} {L : List Asn}
theorem Sep.mem {A : Asn} : ∀ {U : Nat → Prop} {L : List Asn}, Sep w U L → A ∈ L → ∃ own, A.at_ own w
  | _, [], _, h => by cases h
  | U, C :: L, ⟨o, h1, h2, h3⟩, h => by
    rcases List.mem_cons.1 h with e | e
    · subst e; exact ⟨o, h2⟩
    · exact Sep.mem h3 e
theorem St.cellOf {g : Nat} {t : TypeId} {cs : Array Value} (h : St W w L) (hm : aBlk g t cs ∈ L) (i : Nat) : w.cell? ⟨g, i, none⟩ = cs[i]? := by
  obtain ⟨own, h1, h2⟩ := h.2.mem hm
  exact h2.cell i
theorem St.rot4 {A C D E : Asn} (h : St W w (A :: C :: D :: E :: L)) : St W w (E :: A :: C :: D :: L) := by
  obtain ⟨hb, o, h1, h2, h3⟩ := h
  exact St.swap ⟨hb, o, h1, h2, (St.rot3' h3)⟩
where
  St.rot3' {U : Nat → Prop} {A C D : Asn} {L : List Asn} (h : Sep w U (A :: C :: D :: L)) : Sep w U (D :: A :: C :: L) := by
    obtain ⟨o, h1, h2, h3⟩ := h
    exact Sep.swap ⟨o, h1, h2, h3.swap⟩
theorem St.plLss {v : Value} {M : List (List UInt8)} (h : St W w (aPl v M :: L)) : ∃ own, Lss own w v M := by
  obtain ⟨own, ⟨vs, ⟨h1, h2⟩, h3⟩, ho⟩ := h.get
  exact ⟨own, Lss.of_own h1 h3 h2⟩
end
/-- what one ask leaves of the bytes and the error -/
def askS (bs : List UInt8) (e d : Int) (m : Nat) (n k c : Int) : List UInt8 × Int :=
  if d = 0 then (numS bs e m).2 else if d = 1 then (takeS bs e n).2 else if d = 2 then (bytesS bs e n).2 else if d = 3 then (listS bs e n k).2 else (failB bs e c, failE e c)
def AskPost (W : World) (p p2 : Nat) (L : List Asn) (r : List UInt8 × Int) (e' : Ending) (w' : World) : Prop :=
  e' = .returned (.bool true) ∧ St W w' (aRd p r.1 r.2 :: aRr W p2 r.1 r.2 :: L)
section
variable {W w : World} {p p2 : Nat} {bs : List UInt8} {e : Int} {L : List Asn}
set_option maxRecDepth 20000 in
set_option maxHeartbeats 4000000 in
theorem St.ask_num (h : St W w (aRd p bs e :: aRr W p2 bs e :: L))  (m : Nat) (n k c : Int) :
    Calls Try.prog 79 #[.pointer (some ⟨p, 0, none⟩), .pointer (some ⟨p2, 0, none⟩), .agg #[.int .i64 0, .int .u64 (m : Int), .int .i64 n, .int .i64 k, .int .i64 c]] w (AskPost W p p2 L ((numS bs e m).2)) := by
  have H0 := Lib.hid ((aBlk.new h 87 #[.int .i64 0, .int .u64 (m : Int), .int .i64 n, .int .i64 k, .int .i64 c]).later (Below.refl _ _).drew)
  clear h
  go_enter Try.func79, Try.ntmps79
  go_wp2_with fail
  generalize w.heap.size = g at *
  generalize w.alloc (.cells #[.int .i64 0, .int .u64 (m : Int), .int .i64 n, .int .i64 k, .int .i64 c] 87) = w0 at *
  have k01 : w0.drew.cell? ⟨g, 1, none⟩ = some (.int .u64 (m : Int)) := H0.out.cellOf (g := g) (t := 87) (cs := #[.int .i64 0, .int .u64 (m : Int), .int .i64 n, .int .i64 k, .int .i64 c]) (by simp) 1
  go_region_held3 (fun w' => w'.cell? ⟨g, 1, none⟩ = some (.int .u64 (m : Int))) (assumption) (first
    | (go_at_call 85; (with_reducible refine (St.num85 H0.out.swap m).mono ?_); rintro e w1 ⟨rfl, hS⟩; have H1 := Lib.hid hS; have k11 := hS.cellOf (g := g) (t := 87) (cs := #[.int .i64 0, .int .u64 (m : Int), .int .i64 n, .int .i64 k, .int .i64 c]) (by simp) 1; simp at k11; clear hS)
    | (go_at_call 117; (with_reducible refine (St.num117 H1.out.rot3 m).mono ?_); rintro e w2 ⟨rfl, hS⟩; have H2 := Lib.hid hS; have k21 := hS.cellOf (g := g) (t := 87) (cs := #[.int .i64 0, .int .u64 (m : Int), .int .i64 n, .int .i64 k, .int .i64 c]) (by simp) 1; simp at k21; clear hS))
  all_goals
    go_wp2_with fail
    go_ret
    exact ⟨by simp, H2.out.rot3.drop.swap⟩
set_option maxRecDepth 20000 in
set_option maxHeartbeats 4000000 in
theorem St.ask_take (h : St W w (aRd p bs e :: aRr W p2 bs e :: L))  (m : Nat) (n k c : Int) (hn : -9223372036854775808 ≤ n ∧ n ≤ 9223372036854775807) (hbl : bs.length ≤ 1048576) :
    Calls Try.prog 79 #[.pointer (some ⟨p, 0, none⟩), .pointer (some ⟨p2, 0, none⟩), .agg #[.int .i64 1, .int .u64 (m : Int), .int .i64 n, .int .i64 k, .int .i64 c]] w (AskPost W p p2 L ((takeS bs e n).2)) := by
  have H0 := Lib.hid ((aBlk.new h 87 #[.int .i64 1, .int .u64 (m : Int), .int .i64 n, .int .i64 k, .int .i64 c]).later (Below.refl _ _).drew)
  clear h
  have HN := Lib.hid hn
  have HBL := Lib.hid hbl
  clear hn hbl
  have LB := Lib.hid (show (takeS bs e n).1.length ≤ big by have := takeS_len bs e n; have := HBL.out; unfold big; omega)
  go_enter Try.func79, Try.ntmps79
  go_wp2_with fail
  generalize w.heap.size = g at *
  generalize w.alloc (.cells #[.int .i64 1, .int .u64 (m : Int), .int .i64 n, .int .i64 k, .int .i64 c] 87) = w0 at *
  have k02 : w0.drew.cell? ⟨g, 2, none⟩ = some (.int .i64 n) := H0.out.cellOf (g := g) (t := 87) (cs := #[.int .i64 1, .int .u64 (m : Int), .int .i64 n, .int .i64 k, .int .i64 c]) (by simp) 2
  go_region_held3 (fun w' => w'.cell? ⟨g, 2, none⟩ = some (.int .i64 n)) (assumption) (first
    | (go_at_call 86; (with_reducible refine (St.take86 H0.out.swap n HN.out).mono ?_); rintro e w1 ⟨v1, rfl, hS⟩; have H1 := Lib.hid hS; have k12 := hS.cellOf (g := g) (t := 87) (cs := #[.int .i64 1, .int .u64 (m : Int), .int .i64 n, .int .i64 k, .int .i64 c]) (by simp) 2; simp at k12; clear hS)
    | (go_at_call 118; (with_reducible refine (St.take118 H1.out.rot4 n HN.out).mono ?_); rintro e w2 ⟨v2, rfl, hS⟩; have H2 := Lib.hid hS; have k22 := hS.cellOf (g := g) (t := 87) (cs := #[.int .i64 1, .int .u64 (m : Int), .int .i64 n, .int .i64 k, .int .i64 c]) (by simp) 2; simp at k22; clear hS)
    | (go_at_call 68; (with_reducible refine (equal68 (H2.out.rot3.byBs LB.out) (H2.out.byBs LB.out)).mono ?_); rintro e w3 ⟨rfl, rfl⟩; simp only [beq_self_eq_true]))
  all_goals
    go_wp2_with fail
    go_ret
    exact ⟨by simp, H2.out.drop.drop2.rot3.drop.swap⟩
set_option maxRecDepth 20000 in
set_option maxHeartbeats 4000000 in
theorem St.ask_bytes (h : St W w (aRd p bs e :: aRr W p2 bs e :: L))  (m : Nat) (n k c : Int) (hn : -9223372036854775808 ≤ n ∧ n ≤ 9223372036854775807) (hbl : bs.length ≤ 1048576) :
    Calls Try.prog 79 #[.pointer (some ⟨p, 0, none⟩), .pointer (some ⟨p2, 0, none⟩), .agg #[.int .i64 2, .int .u64 (m : Int), .int .i64 n, .int .i64 k, .int .i64 c]] w (AskPost W p p2 L ((bytesS bs e n).2)) := by
  have H0 := Lib.hid ((aBlk.new h 87 #[.int .i64 2, .int .u64 (m : Int), .int .i64 n, .int .i64 k, .int .i64 c]).later (Below.refl _ _).drew)
  clear h
  have HN := Lib.hid hn
  have HBL := Lib.hid hbl
  clear hn hbl
  have LB := Lib.hid (show (bytesS bs e n).1.length ≤ big by have := bytesS_all bs e n; have := HBL.out; unfold big; omega)
  go_enter Try.func79, Try.ntmps79
  go_wp2_with fail
  generalize w.heap.size = g at *
  generalize w.alloc (.cells #[.int .i64 2, .int .u64 (m : Int), .int .i64 n, .int .i64 k, .int .i64 c] 87) = w0 at *
  have k02 : w0.drew.cell? ⟨g, 2, none⟩ = some (.int .i64 n) := H0.out.cellOf (g := g) (t := 87) (cs := #[.int .i64 2, .int .u64 (m : Int), .int .i64 n, .int .i64 k, .int .i64 c]) (by simp) 2
  go_region_held3 (fun w' => w'.cell? ⟨g, 2, none⟩ = some (.int .i64 n)) (assumption) (first
    | (go_at_call 87; (with_reducible refine (St.bytes87 H0.out.swap n HN.out.2).mono ?_); rintro e w1 ⟨v1, rfl, hS⟩; have H1 := Lib.hid hS; have k12 := hS.cellOf (g := g) (t := 87) (cs := #[.int .i64 2, .int .u64 (m : Int), .int .i64 n, .int .i64 k, .int .i64 c]) (by simp) 2; simp at k12; clear hS)
    | (go_at_call 119; (with_reducible refine (St.bytes119 H1.out.rot4 n HN.out.2).mono ?_); rintro e w2 ⟨v2, rfl, hS⟩; have H2 := Lib.hid hS; have k22 := hS.cellOf (g := g) (t := 87) (cs := #[.int .i64 2, .int .u64 (m : Int), .int .i64 n, .int .i64 k, .int .i64 c]) (by simp) 2; simp at k22; clear hS)
    | (go_at_call 68; (with_reducible refine (equal68 (H2.out.rot3.byBs LB.out) (H2.out.byBs LB.out)).mono ?_); rintro e w3 ⟨rfl, rfl⟩; simp only [beq_self_eq_true]))
  all_goals
    go_wp2_with fail
    go_ret
    exact ⟨by simp, H2.out.drop.drop2.rot3.drop.swap⟩
set_option maxRecDepth 20000 in
set_option maxHeartbeats 4000000 in
theorem St.ask_list (h : St W w (aRd p bs e :: aRr W p2 bs e :: L))  (m : Nat) (n k c : Int) (hn : -9223372036854775808 ≤ n ∧ n ≤ 9223372036854775807) (hk : k ≤ 9223372036854775807) (hbl : bs.length ≤ 1048576) :
    Calls Try.prog 79 #[.pointer (some ⟨p, 0, none⟩), .pointer (some ⟨p2, 0, none⟩), .agg #[.int .i64 3, .int .u64 (m : Int), .int .i64 n, .int .i64 k, .int .i64 c]] w (AskPost W p p2 L ((listS bs e n k).2)) := by
  have H0 := Lib.hid ((aBlk.new h 87 #[.int .i64 3, .int .u64 (m : Int), .int .i64 n, .int .i64 k, .int .i64 c]).later (Below.refl _ _).drew)
  clear h
  have HN := Lib.hid hn
  have HBL := Lib.hid hbl
  clear hn hbl
  have HK := Lib.hid hk
  have HBB := Lib.hid (show bs.length ≤ 1099511627775 by have := HBL.out; omega)
  clear hk
  go_enter Try.func79, Try.ntmps79
  go_wp2_with fail
  generalize w.heap.size = g at *
  generalize w.alloc (.cells #[.int .i64 3, .int .u64 (m : Int), .int .i64 n, .int .i64 k, .int .i64 c] 87) = w0 at *
  have k02 : w0.drew.cell? ⟨g, 2, none⟩ = some (.int .i64 n) := H0.out.cellOf (g := g) (t := 87) (cs := #[.int .i64 3, .int .u64 (m : Int), .int .i64 n, .int .i64 k, .int .i64 c]) (by simp) 2
  have k03 : w0.drew.cell? ⟨g, 3, none⟩ = some (.int .i64 k) := H0.out.cellOf (g := g) (t := 87) (cs := #[.int .i64 3, .int .u64 (m : Int), .int .i64 n, .int .i64 k, .int .i64 c]) (by simp) 3
  go_region_held3 (fun w' => w'.cell? ⟨g, 2, none⟩ = some (.int .i64 n) ∧ w'.cell? ⟨g, 3, none⟩ = some (.int .i64 k)) (first | assumption | (refine ⟨?_, ?_⟩ <;> assumption)) (first
    | (go_at_call 88; (with_reducible refine (St.list88 H0.out.swap n k HN.out.2 HK.out HBB.out).mono ?_); rintro e w1 ⟨v1, rfl, hS⟩; have H1 := Lib.hid hS; have k12 := hS.cellOf (g := g) (t := 87) (cs := #[.int .i64 3, .int .u64 (m : Int), .int .i64 n, .int .i64 k, .int .i64 c]) (by simp) 2; simp at k12; have k13 := hS.cellOf (g := g) (t := 87) (cs := #[.int .i64 3, .int .u64 (m : Int), .int .i64 n, .int .i64 k, .int .i64 c]) (by simp) 3; simp at k13; clear hS)
    | (go_at_call 120; (with_reducible refine (St.list120 H1.out.rot4 n k HN.out.2 HK.out HBB.out).mono ?_); rintro e w2 ⟨v2, rfl, hS⟩; have H2 := Lib.hid hS; obtain ⟨o1, hl1⟩ := hS.plLss; obtain ⟨o2, hl2⟩ := hS.rot3.plLss; have HL1 := Lib.hid hl1; have HL2 := Lib.hid hl2; have k22 := hS.cellOf (g := g) (t := 87) (cs := #[.int .i64 3, .int .u64 (m : Int), .int .i64 n, .int .i64 k, .int .i64 c]) (by simp) 2; simp at k22; have k23 := hS.cellOf (g := g) (t := 87) (cs := #[.int .i64 3, .int .u64 (m : Int), .int .i64 n, .int .i64 k, .int .i64 c]) (by simp) 3; simp at k23; clear hS hl1 hl2)
    | (go_at_call 90; (with_reducible refine (same90 HL2.out HL1.out).mono ?_); rintro e w3 ⟨rfl, hb3⟩; have H3 := Lib.hid (H2.out.later hb3); have hS := H3.out; have k31 := hS.cellOf (g := g) (t := 87) (cs := #[.int .i64 3, .int .u64 (m : Int), .int .i64 n, .int .i64 k, .int .i64 c]) (by simp) 2; have k32 := hS.cellOf (g := g) (t := 87) (cs := #[.int .i64 3, .int .u64 (m : Int), .int .i64 n, .int .i64 k, .int .i64 c]) (by simp) 3; simp at k31 k32; clear hS hb3))
  all_goals
    go_wp2_with fail
    go_ret
    exact ⟨by simp, H3.out.drop.drop2.rot3.drop.swap⟩
set_option maxRecDepth 20000 in
set_option maxHeartbeats 4000000 in
theorem St.ask_fail (h : St W w (aRd p bs e :: aRr W p2 bs e :: L)) (d : Int) (hd : d ≠ 0 ∧ d ≠ 1 ∧ d ≠ 2 ∧ d ≠ 3) (m : Nat) (n k c : Int) :
    Calls Try.prog 79 #[.pointer (some ⟨p, 0, none⟩), .pointer (some ⟨p2, 0, none⟩), .agg #[.int .i64 d, .int .u64 (m : Int), .int .i64 n, .int .i64 k, .int .i64 c]] w (AskPost W p p2 L (failB bs e c, failE e c)) := by
  have H0 := Lib.hid (aBlk.new h 87 #[.int .i64 d, .int .u64 (m : Int), .int .i64 n, .int .i64 k, .int .i64 c])
  have q0 : (d == 0) = false := by simp [hd.1]
  have q1 : (d == 1) = false := by simp [hd.2.1]
  have q2 : (d == 2) = false := by simp [hd.2.2.1]
  have q3 : (d == 3) = false := by simp [hd.2.2.2]
  clear h hd
  go_enter Try.func79, Try.ntmps79
  go_wp2_with (first
    | (go_at_call 84; (with_reducible refine (St.fail84 H0.out.swap c).mono ?_); rintro e w1 ⟨rfl, hS⟩; have H1 := Lib.hid hS; have k1 := hS.cellOf (g := w.heap.size) (t := 87) (cs := #[.int .i64 d, .int .u64 (m : Int), .int .i64 n, .int .i64 k, .int .i64 c]) (by simp) 4; simp at k1; clear hS)
    | (go_at_call 121; (with_reducible refine (St.fail121 H1.out.rot3 c).mono ?_); rintro e w2 ⟨rfl, hS⟩; have H2 := Lib.hid hS; clear hS))
  go_ret
  exact ⟨rfl, H2.out.rot3.drop.swap⟩
theorem St.asks79 (h : St W w (aRd p bs e :: aRr W p2 bs e :: L)) (d : Int) (m : Nat) (n k c : Int) (hn : -9223372036854775808 ≤ n ∧ n ≤ 9223372036854775807) (hk : k ≤ 9223372036854775807) (hbl : bs.length ≤ 1048576) :
    Calls Try.prog 79 #[.pointer (some ⟨p, 0, none⟩), .pointer (some ⟨p2, 0, none⟩), .agg #[.int .i64 d, .int .u64 (m : Int), .int .i64 n, .int .i64 k, .int .i64 c]] w (AskPost W p p2 L (askS bs e d m n k c)) := by
  unfold askS
  by_cases h0 : d = 0
  · subst h0; exact h.ask_num m n k c
  · rw [if_neg h0]
    by_cases h1 : d = 1
    · subst h1; exact h.ask_take m n k c hn hbl
    · rw [if_neg h1]
      by_cases h2 : d = 2
      · subst h2; exact h.ask_bytes m n k c hn hbl
      · rw [if_neg h2]
        by_cases h3 : d = 3
        · subst h3; exact h.ask_list m n k c hn hk hbl
        · rw [if_neg h3]; exact h.ask_fail d ⟨h0, h1, h2, h3⟩ m n k c
end
end Go.Proofs.Ythgpkbhilkdckaa

/- A reader that no call made: what its methods return. -/
namespace Go.Proofs.Ythgpkbhilkdckaa
open Go.RowKit
set_option linter.unusedVariables false

/-- nil, or a struct that no call made -/
def NoRd (w : World) (v : Value) : Prop := v = .pointer none ∨ ∃ p, v = .pointer (some ⟨p, 0, none⟩) ∧ Blk w p 94 #[.slice none 0 0, .int .i64 0, .bool false]
theorem NoRd.later {w w' : World} {v : Value} (h : NoRd w v) (hb : B w w') : NoRd w' v := by
  rcases h with h | ⟨p, h, hk⟩
  · exact .inl h
  · exact .inr ⟨p, h, hk.later hb⟩

theorem stuck122n {w : World} {v : Value} (h : NoRd w v) : Calls Try.prog 122 #[v] w fun e w' => e = .returned (.bool true) ∧ w = w' := by
  rcases h with rfl | ⟨p, rfl, hk⟩
  · go_enter Try.func122, Try.ntmps122
    go_wp2
    go_ret
    exact ⟨rfl, rfl⟩
  · have c0 := hk.cell 0
    have c1 := hk.cell 1
    have c2 := hk.cell 2
    simp at c0 c1 c2
    clear hk
    go_enter Try.func122, Try.ntmps122
    go_wp2
    go_ret
    exact ⟨rfl, rfl⟩

theorem err80n {w : World} {v : Value} (h : NoRd w v) : Calls Try.prog 80 #[v] w fun e w' => e = .returned (.int .i64 2) ∧ w = w' := by
  rcases h with rfl | ⟨p, rfl, hk⟩
  · go_enter Try.func80, Try.ntmps80
    go_wp2
    go_ret
    exact ⟨rfl, rfl⟩
  · have c0 := hk.cell 0
    have c1 := hk.cell 1
    have c2 := hk.cell 2
    simp at c0 c1 c2
    clear hk
    go_enter Try.func80, Try.ntmps80
    go_wp2
    go_ret
    exact ⟨rfl, rfl⟩

theorem fail84n {w : World} {v : Value} (h : NoRd w v) (k : Int) : Calls Try.prog 84 #[v, .int .i64 k] w fun e w' => e = .returned (.tuple #[]) ∧ w = w' := by
  have H := Lib.hid h
  clear h
  go_enter Try.func84, Try.ntmps84
  go_wp2_with (first
    | (go_at_call 122; (with_reducible refine (stuck122n H.out).mono ?_); rintro e wn ⟨rfl, rfl⟩))
  go_end0
  exact ⟨rfl, rfl⟩

theorem num85n {w : World} {v : Value} (h : NoRd w v) (m : Int) : Calls Try.prog 85 #[v, .int .u64 m] w fun e w' => e = .returned (.int .u64 0) ∧ w = w' := by
  have H := Lib.hid h
  clear h
  go_enter Try.func85, Try.ntmps85
  go_wp2_with (first
    | (go_at_call 122; (with_reducible refine (stuck122n H.out).mono ?_); rintro e wn ⟨rfl, rfl⟩))
  go_ret
  exact ⟨rfl, rfl⟩

theorem take86n {w : World} {v : Value} (h : NoRd w v)  : Calls Try.prog 86 #[v, .int .i64 0] w fun e w' => e = .returned (.slice none 0 0) ∧ w = w' := by
  have H := Lib.hid h
  clear h
  go_enter Try.func86, Try.ntmps86
  go_wp2_with (first
    | (go_at_call 122; (with_reducible refine (stuck122n H.out).mono ?_); rintro e wn ⟨rfl, rfl⟩))
  go_ret
  exact ⟨rfl, rfl⟩

theorem bytes87n {w : World} {v : Value} (h : NoRd w v)  : Calls Try.prog 87 #[v, .int .i64 1] w fun e w' => e = .returned (.slice none 0 0) ∧ w = w' := by
  have H := Lib.hid h
  clear h
  go_enter Try.func87, Try.ntmps87
  go_wp2_with (first
    | (go_at_call 85; (with_reducible refine (num85n H.out _).mono ?_); rintro e wn ⟨rfl, rfl⟩)
    | (go_at_call 86; (with_reducible refine (take86n H.out).mono ?_); rintro e wn ⟨rfl, rfl⟩))
  go_ret
  exact ⟨rfl, rfl⟩

theorem list88n {w : World} {v : Value} (h : NoRd w v) : Calls Try.prog 88 #[v, .int .i64 1, .int .i64 1] w fun e w' => e = .returned (.slice none 0 0) ∧ w = w' := by
  have H := Lib.hid h
  clear h
  go_enter Try.func88, Try.ntmps88
  go_wp2_with (first
    | (go_at_call 85; (with_reducible refine (num85n H.out _).mono ?_); rintro e wn ⟨rfl, rfl⟩))
  go_loop [8, 16] (fun l i => l = .slice none 0 0 ∧ i = .int .u64 0) (fun _ i => 0)
  case atStart => exact ⟨rfl, rfl⟩
  case round =>
    obtain ⟨rfl, rfl⟩ := hrel
    go_wp2_with fail
    go_ret
    exact ⟨rfl, rfl⟩

theorem left81n {w : World} {v : Value} (h : NoRd w v)  : Calls Try.prog 81 #[v] w fun e w' => e = .returned (.int .i64 0) ∧ w = w' := by
  have H := Lib.hid h
  clear h
  go_enter Try.func81, Try.ntmps81
  go_wp2_with (first
    | (go_at_call 122; (with_reducible refine (stuck122n H.out).mono ?_); rintro e wn ⟨rfl, rfl⟩))
  go_ret
  exact ⟨rfl, rfl⟩

theorem done82n {w : World} {v : Value} (h : NoRd w v)  : Calls Try.prog 82 #[v] w fun e w' => e = .returned (.int .i64 2) ∧ w = w' := by
  have H := Lib.hid h
  clear h
  go_enter Try.func82, Try.ntmps82
  go_wp2_with (first
    | (go_at_call 80; (with_reducible refine (err80n H.out).mono ?_); rintro e wn ⟨rfl, rfl⟩))
  go_ret
  exact ⟨rfl, rfl⟩
end Go.Proofs.Ythgpkbhilkdckaa

/- CodecNone: the walk. -/
namespace Go.Proofs.Ythgpkbhilkdckaa
open Go.RowKit
set_option linter.unusedVariables false

section
variable {W w : World} {L : List Asn}
theorem St.bsOf {v : Value} {bs : List UInt8} (h : St W w L) (hm : aBy v bs ∈ L) (hl : bs.length ≤ big) : Bs w v bs := by
  obtain ⟨own, h1, h2⟩ := h.2.mem hm
  exact Bs.of_own h1 hl
theorem St.addMade (h : St W w L) {w' : World} {e : TypeId} {n : Nat} (hr : w'.ownsRow 0 e 1 (.slice (some ⟨w.heap.size, 0, none⟩) 0 n) 0 []) (hg : w.grownBy w' none) : St W w' (aRow e 1 (.slice (some ⟨w.heap.size, 0, none⟩) 0 n) 0 [] :: L) :=
  h.add (B.grown (Below.refl _ _) hg (fun k hk => by cases hk)) (A := aRow e 1 _ 0 []) (own := fun x => x = w.heap.size) ⟨hr, fun g hg => by simpa [Value.ownBlock] using hg.symm⟩ (fun x e => by omega)
theorem St.rowSet {e : TypeId} {sz n g c : Nat} {xs : List Value} (h : St W w (aRow e sz (.slice (some ⟨g, 0, none⟩) n c) n xs :: L)) (j : Nat) (u : Value) : St W (w.setCell ⟨g, j, none⟩ u) (aRow e sz (.slice (some ⟨g, 0, none⟩) n c) n (xs.set j u) :: L) := by
  obtain ⟨own, hr, ho, hback⟩ := h.focus
  obtain ⟨r1, r2⟩ := hr.1.stored j u
  exact hback _ (aRow e sz (.slice (some ⟨g, 0, none⟩) n c) n (xs.set j u)) ((Ext.refl own w).set (p := ⟨g, j, none⟩) (fun _ => hr.2 g rfl) u) ⟨r1, fun g' hg => .inl (hr.2 g' hg)⟩
end
section
variable {P : Program} {W w : World} {ops : Array Oper} {rest : List Oper} {o : Oper} {a : Act} {Q : Exit → Act → World → Prop} {L : List Asn}
/-- the append of an operation whose guard says yes -/
theorem wpList_append_StW (hw : Region.wanted o (yielded ops a.tmps) = true) (s x : Operand) (t : TypeId) (ho : o.op = .call { callee := .builtin .append, args := #[s, x], argTypes := #[t, t] })
    {e : TypeId} {z : Value} {sz bytes : Nat} (ht : P.underlying t = some (.slice e)) (hie : (P.info? e).map (fun i => (i.zero, i.size, i.bytes)) = some (some z, sz, bytes)) (hz : z.cells.size = sz) (hsz : 0 < sz)
    {n m : Nat} {v u : Value} {xs news : List Value} (hs : a.eval s = v) (hx : a.eval x = u) (hown : St W w (aRow e sz v n xs :: L)) (hu : Rd w u m sz news) (h1 : ∀ x ∈ news, x.oneCell' = true) (h63 : n + m ≤ maxLen) (hroom : (n + m) * bytes ≤ 140737488355328)
    (h : ∀ A c w', St W w' (aRow e sz (.slice A (n + m) c) (n + m) (xs ++ news) :: L) → wpList P ops Q rest (a.put o.dst (.slice A (n + m) c)) w') :
    wpList P ops Q (o :: rest) a w := by
  obtain ⟨own, hr, ho', hback⟩ := hown.focus
  obtain ⟨v', w', hrun, r1, x1, y1⟩ := append_Rd (P := P) (t := t) (ty := o.type) ht hie hz hsz hr.1 hu h1 h63 hroom (Nat.zero_le _)
  obtain ⟨A, c, rfl⟩ := own_slice r1
  refine wpList_step fun K hK => ?_
  rw [if_pos hw]
  refine wp_append_run s x t ho hs hx hrun (hK _ _ (h A c w' (hback w' (aRow e sz (.slice A (n + m) c) (n + m) (xs ++ news)) ((Ext.refl own w).grown x1 (fun g e' _ => hr.2 g e')) ⟨r1, fun g hg => ?_⟩)))
  rcases y1 with e' | e'
  · exact .inl (hr.2 g (by rw [← e', hg]))
  · right; rw [e'] at hg; injection hg with hg; omega
end
theorem putNum70i {w : World} {v : Value} {bs : List UInt8} (h : Bs w v bs) (n : Nat) (k : Int) (hk : (n : Int) = k) (hn : n < 18446744073709551616) (hl : bs.length + 10 ≤ big) : Calls Try.prog 70 #[v, .int .u64 k] w (Fresh w (bs ++ enc n)) := by
  subst hk; exact putNum70 h n hn hl
theorem putNum71i {w : World} {v : Value} {bs : List UInt8} (h : Bs w v bs) (n : Nat) (k : Int) (hk : (n : Int) = k) (hn : n < 18446744073709551616) (hl : bs.length + 10 ≤ big) : Calls Try.prog 71 #[v, .int .u64 k] w (Fresh w (bs ++ enc n)) := by
  subst hk; exact putNum71 h n hn hl
theorem St.getBs {W w : World} {L : List Asn} {v : Value} {bs : List UInt8} (h : St W w (aBs v bs :: L)) : Bs w v bs := by
  obtain ⟨own, h1, _⟩ := h.get
  exact h1.1
theorem takeS_all (bs : List UInt8) : takeS bs 0 (bs.length : Int) = (bs, [], 0) := by
  unfold takeS
  rw [if_neg (by simp), if_neg (by omega), if_neg (by omega)]
  simp

set_option maxRecDepth 100000 in
set_option maxHeartbeats 4000000 in
theorem codecNone_walk {W : World} {u : Value} {bs : List UInt8} {n : Nat} (hb : Bs W u bs) (hn : n < 18446744073709551616) (h1 : bs.length ≤ 1048576) :
    Calls Try.prog 12 #[u, .int .u64 (n : Int)] W fun e w' => e = .returned (.bool true) ∧ B W w' := by
  obtain ⟨Ab, cb, rfl⟩ := hb.rd.slice
  have HB := Lib.hid hb
  have HN := Lib.hid hn
  have H1 := Lib.hid h1
  have LB := Lib.hid (show bs.length ≤ big by unfold big; omega)
  have LB10 := Lib.hid (show bs.length + 10 ≤ big by unfold big; omega)
  have hli : (bs.length : Int) ≤ 1048576 := by omega
  obtain ⟨i5, hi, hz0, hz1, hz2⟩ := info_parts info5
  clear hb hn h1
  go_enter Try.func12, Try.ntmps12
  go_wp2_with (first
    | (go_at_call 69; (with_reducible refine (live69 (St.nil W)).mono ?_); rintro e w1 ⟨rfl, hS⟩; have HS1 := Lib.hid hS; clear hS))
  have hE1 : Blk ((w1.alloc (.cells #[.slice none 0 0, .int .i64 0, .bool false] 94)).alloc (.cells #[.pointer none, .pointer (some ⟨w1.heap.size, 0, none⟩)] 82)) w1.heap.size 94 #[.slice none 0 0, .int .i64 0, .bool false] := (Blk.new w1 _ _).alloc _
  have hE2 : Blk ((w1.alloc (.cells #[.slice none 0 0, .int .i64 0, .bool false] 94)).alloc (.cells #[.pointer none, .pointer (some ⟨w1.heap.size, 0, none⟩)] 82)) (w1.heap.size + 1) 82 #[.pointer none, .pointer (some ⟨w1.heap.size, 0, none⟩)] := by simpa using Blk.new (w1.alloc (.cells #[.slice none 0 0, .int .i64 0, .bool false] 94)) 82 #[.pointer none, .pointer (some ⟨w1.heap.size, 0, none⟩)]
  have HS2 := Lib.hid ((HS1.out.later (B.alloc' w1 (.cells #[.slice none 0 0, .int .i64 0, .bool false] 94))).later (B.alloc' _ (.cells #[.pointer none, .pointer (some ⟨w1.heap.size, 0, none⟩)] 82)))
  generalize (w1.alloc (.cells #[.slice none 0 0, .int .i64 0, .bool false] 94)).alloc (.cells #[.pointer none, .pointer (some ⟨w1.heap.size, 0, none⟩)] 82) = w2 at *
  have HE := Lib.hid (show ∀ q : Nat, q < 2 → ∃ v, w2.cell? ⟨w1.heap.size + 1, q, none⟩ = some v ∧ NoRd w2 v from fun q hq => by
    rcases q with _ | _ | q
    · exact ⟨_, by rw [hE2.cell]; rfl, .inl rfl⟩
    · exact ⟨_, by rw [hE2.cell]; rfl, .inr ⟨_, rfl, hE1⟩⟩
    · omega)
  clear hE1 hE2
  generalize w1.heap.size = g1 at *
  go_loop [22] (fun i => ∃ q : Nat, q ≤ 2 ∧ i = .int .i64 q) (fun i => 2 - (intOf i).toNat)
  case atStart => exact ⟨0, by omega, rfl⟩
  case round =>
    obtain ⟨q, hq, rfl⟩ := hrel
    by_cases hlt : q < 2
    · obtain ⟨v, hc, hN⟩ := HE.out q hlt
      have HN' := Lib.hid hN
      have hqi : (q : Int) < 2 := by omega
      clear hN
      go_wp2_with (first
        | (go_at_call 84; (with_reducible refine (fail84n HN'.out _).mono ?_); rintro e w3 ⟨rfl, rfl⟩)
        | (go_at_call 85; (with_reducible refine (num85n HN'.out _).mono ?_); rintro e w3 ⟨rfl, rfl⟩)
        | (go_at_call 86; (with_reducible refine (take86n HN'.out).mono ?_); rintro e w3 ⟨rfl, rfl⟩)
        | (go_at_call 87; (with_reducible refine (bytes87n HN'.out).mono ?_); rintro e w3 ⟨rfl, rfl⟩)
        | (go_at_call 88; (with_reducible refine (list88n HN'.out).mono ?_); rintro e w3 ⟨rfl, rfl⟩)
        | (go_at_call 81; (with_reducible refine (left81n HN'.out).mono ?_); rintro e w3 ⟨rfl, rfl⟩)
        | (go_at_call 80; (with_reducible refine (err80n HN'.out).mono ?_); rintro e w3 ⟨rfl, rfl⟩)
        | (go_at_call 82; (with_reducible refine (done82n HN'.out).mono ?_); rintro e w3 ⟨rfl, rfl⟩))
      go_round
      case rel => exact ⟨q + 1, by omega, by go_num⟩
      case measure => simp [intOf]; omega
    · have hqi : ¬ (q : Int) < 2 := by omega
      have g1' : 0 + bs.length ≤ maxLen := by have := H1.out; unfold maxLen; omega
      have g2' : (0 + bs.length) * 1 ≤ 140737488355328 := by have := H1.out; omega
      have o1 := cellsB_one bs
      have m1 : ((bs.length : Int) + 40) = ((bs.length + 40 : Nat) : Int) := by omega
      have m2 : i5.bytes * (bs.length + 40) ≤ 281474976710656 := by rw [hz2]; have := H1.out; omega
      have m3 : bs.length + 40 ≤ maxLen := by have := H1.out; unfold maxLen; omega
      have M1 := Lib.hid m1
      have HN2 := Lib.hid (show n / 2 < 18446744073709551616 by have := HN.out; omega)
      have LZ1 := Lib.hid (show (bs ++ enc n).length ≤ big by have := enc_10 HN.out; have := H1.out; unfold big; simp; omega)
      have LZ2 := Lib.hid (show (bs ++ enc (n / 2)).length ≤ big by have := enc_10 HN2.out; have := H1.out; unfold big; simp; omega)
      have HTK := Lib.hid (takeS_all bs)
      have HD2 := Lib.hid (show ((n / 2 : Nat) : Int) = (n : Int) / 2 by omega)
      have hw2 : IntKind.u64.wrap ((n : Int) / 2) = (n : Int) / 2 := u64_id (by have := HN.out; omega)
      have HLI := Lib.hid (show -9223372036854775808 ≤ (bs.length : Int) ∧ (bs.length : Int) ≤ 9223372036854775807 by omega)
      clear m1 HE hlt
      go_wp2_with (first
        | (refine wpList_make_own w2 rfl (.const (.int .i64 0)) (.tmp 67) 47 rfl 0 5 i5 (.int .u8 0) 1 Try.underlying47 hi hz0 hz1 .i64 .i64 ((bs.length : Int) + 40) (bs.length + 40) rfl rfl M1.out m2 m3 (Nat.zero_le _) ?_; intro w3 r3 x3; have HS3 := Lib.hid (HS2.out.addMade r3 x3); clear r3 x3)
        | (at_builtin; refine wpList_append_St rfl (.tmp 68) (.tmp 69) 47 rfl Try.underlying47 info5 rfl Nat.zero_lt_one rfl rfl HS3.out ((HB.out.later HS3.out.b).rd) o1 g1' g2' ?_; intro A4 c4 w4 hS; simp only [Nat.zero_add, List.nil_append] at hS ⊢; have HS4 := Lib.hid (show St W w4 [aBy (.slice A4 bs.length c4) bs] from hS); clear hS)
        | (go_at_call 89; (with_reducible refine (HS4.out.fresh (show Calls Try.prog 89 _ _ (Fresh w4 bs) from clone89 (HB.out.later HS4.out.b))).mono ?_); rintro e w5 ⟨v5, rfl, hS⟩; have HS5 := Lib.hid hS; clear hS)
        | (go_at_call 70; (with_reducible refine (HS5.out.fresh (putNum70 (HS5.out.bsOf (v := .slice A4 bs.length c4) (bs := bs) (by simp) LB.out) n HN.out LB10.out)).mono ?_); rintro e w6 ⟨v6, rfl, hS⟩; have HS6 := Lib.hid hS; clear hS)
        | (go_at_call 70; (with_reducible refine (HS6.out.fresh (putNum70i (HS6.out.bsOf (v := .slice A4 bs.length c4) (bs := bs) (by simp) LB.out) (n / 2) ((n : Int) / 2) HD2.out HN2.out LB10.out)).mono ?_); rintro e w7 ⟨v7, rfl, hS⟩; have HS7 := Lib.hid hS; clear hS)
        | (go_at_call 77; (with_reducible refine (St.read77 HS7.out (HS7.out.bsOf (v := .slice A4 bs.length c4) (bs := bs) (by simp) LB.out)).mono ?_); rintro e w8 ⟨p, rfl, hS⟩; have HS8 := Lib.hid hS; clear hS)
        | (go_at_call 86; (with_reducible refine (St.take86 HS8.out (bs.length : Int) HLI.out).mono ?_); rintro e w9 ⟨v9, rfl, hS⟩; rw [HTK.out] at hS; have HS9 := Lib.hid hS.rot4; obtain ⟨A9, c9, rfl⟩ := hS.bySlice; clear hS))
      have LZR := Lib.hid (show ∀ q, ((bs ++ enc n) ++ bs.take q).length + 1 ≤ 4194304 from fun q => by have := enc_10 HN.out; have := H1.out; have := List.length_take_le q bs; simp; omega)
      have HCL := Lib.hid ((HS9.out.bsOf (v := .slice A9 bs.length c9) (bs := bs) (by simp) LB.out).form)
      go_loopw [9, 87] (fun v i wr => ∃ (q : Nat), q ≤ bs.length ∧ i = .int .i64 (q : Int) ∧ Hid (St W wr [aBy v ((bs ++ enc n) ++ bs.take q), aBy (.slice A9 bs.length c9) bs, aRd p [] 0, aBy v7 (bs ++ enc (n / 2)), aBy v5 bs, aBy (.slice A4 bs.length c4) bs])) (fun _ i _ => bs.length - (intOf i).toNat)
      case atStart => exact ⟨0, Nat.zero_le _, rfl, by show St _ _ _; simpa using HS9.out⟩
      case round =>
        obtain ⟨q2, hq2, rfl, HT⟩ := hrel
        obtain ⟨A10, c10, hv10⟩ := HT.out.bySlice
        obtain ⟨k10, hk10⟩ : ∃ k, ((bs ++ enc n) ++ bs.take q2).length = k := ⟨_, rfl⟩
        rw [hk10] at hv10
        subst hv10
        by_cases hlt2 : q2 < bs.length
        · obtain ⟨Ax, cx, hvx, _, _, hcx⟩ := (HT.out.bsOf (v := .slice A9 bs.length c9) (bs := bs) (by simp) LB.out).form
          injection hvx with e1 _ e2
          obtain ⟨b, off, rfl, hb1, hcc⟩ := hcx (by omega)
          subst e1 e2
          have k1 := hcc q2 _ (List.getElem?_eq_getElem hlt2)
          have hqi2 : (q2 : Int) < bs.length := by omega
          have HTK2 := Lib.hid (show bs.take (q2 + 1) = bs.take q2 ++ [bs[q2]] by rw [List.take_add_one, List.getElem?_eq_getElem hlt2]; rfl)
          have HK := Lib.hid hk10
          have hz := LZR.out q2
          rw [hk10] at hz
          have f1 : k10 + 1 ≤ maxLen := by unfold maxLen; omega
          have f2 : (k10 + 1) * 1 ≤ 140737488355328 := by omega
          have o2 := cellsB_one [bs[q2]]
          obtain ⟨y, hy⟩ : ∃ y : Int, (bs[q2].toNat : Int) = y := ⟨_, rfl⟩
          have HY := Lib.hid hy
          rw [hy] at k1
          clear hcc hcx hk10 hz hy
          go_wp2_with (at_builtin; refine wpList_append_St rfl (.tmp 91) (.tmp 93) 47 rfl Try.underlying47 info5 rfl Nat.zero_lt_one rfl rfl (show St W _ (aRow 5 1 (.slice A10 k10 c10) k10 (cellsB ((bs ++ enc n) ++ bs.take q2)) :: _) from by have := HT.out.later (B.alloc' wr (.cells #[.int .u8 y] 5)); rw [← HK.out]; rw [← HK.out] at this; exact this) (Rd.byte wr bs[q2] y HY.out) o2 f1 f2 ?_; intro A11 c11 w11 hS; have HT2 := Lib.hid hS; clear hS)
          go_roundw
          case rel =>
            refine ⟨q2 + 1, by omega, by go_num, ?_⟩
            show St _ _ _
            have := HT2.out
            rw [HTK2.out, ← List.append_assoc]
            have e : aRow 5 1 (.slice A11 (k10 + 1) c11) (k10 + 1) (cellsB ((bs ++ enc n) ++ bs.take q2) ++ cellsB [bs[q2]]) = aBy (.slice A11 (k10 + 1) c11) ((bs ++ enc n) ++ bs.take q2 ++ [bs[q2]]) := by
              unfold aBy
              rw [← cellsB_app, List.length_append, HK.out]; rfl
            rw [e] at this
            exact this
          case measure => simp [intOf]; omega
        · have hqi2 : ¬ (q2 : Int) < bs.length := by omega
          have HTE := Lib.hid (show (bs ++ enc n) ++ bs.take q2 = (bs ++ enc n) ++ bs by rw [List.take_of_length_le (by omega)])
          have HT2 := Lib.hid (HTE.out ▸ HT.out)
          go_wp2_with (first
            | (go_at_call 77; (with_reducible refine (St.read77 HT2.out (HT2.out.bsOf (v := .slice A4 bs.length c4) (bs := bs) (by simp) LB.out)).mono ?_); rintro e w12 ⟨p3, rfl, hS⟩; have HU1 := Lib.hid hS; clear hS)
            | (go_at_call 86; (with_reducible refine (St.take86 HU1.out (bs.length : Int) HLI.out).mono ?_); rintro e w13 ⟨v13, rfl, hS⟩; rw [HTK.out] at hS; have HU2 := Lib.hid hS; obtain ⟨A13, c13, rfl⟩ := hS.bySlice; clear hS))
          have LF := Lib.hid (show ((bs ++ enc n) ++ bs).length ≤ big by have := enc_10 HN.out; have := H1.out; unfold big; simp; omega)
          have f1 : (bs ++ enc n).length + bs.length ≤ maxLen := by have := enc_10 HN.out; have := H1.out; unfold maxLen; simp; omega
          have f2 : ((bs ++ enc n).length + bs.length) * 1 ≤ 140737488355328 := by have := enc_10 HN.out; have := H1.out; simp; omega
          go_loopw [103] (fun i wr => ∃ (q : Nat) (cells : List Value), q ≤ bs.length ∧ i = .int .i64 (q : Int) ∧ Hid (∀ j, j < bs.length → ∃ y : Int, cells[j]? = some (.int .u8 y)) ∧ Hid (St W wr (aRow 5 1 (.slice A13 bs.length c13) bs.length cells :: [aRd p3 [] 0, aBy (.slice A10 k10 c10) ((bs ++ enc n) ++ bs), aBy (.slice A9 bs.length c9) bs, aRd p [] 0, aBy v7 (bs ++ enc (n / 2)), aBy v5 bs, aBy (.slice A4 bs.length c4) bs]))) (fun i _ => bs.length - (intOf i).toNat)
          case atStart => exact ⟨0, cellsB bs, Nat.zero_le _, rfl, fun j hj => ⟨_, cellsB_get bs j hj⟩, HU2.out⟩
          case round =>
            obtain ⟨q3, cells, hq3, rfl, HY, HT3⟩ := hrel
            by_cases hlt3 : q3 < bs.length
            · obtain ⟨g, c', hv, hcl, hfz⟩ := HT3.out.row_form (by omega) (by omega)
              injection hv with e1 _ e2
              subst e1 e2
              obtain ⟨y, hy⟩ := HY.out q3 hlt3
              have k1 := hcl q3 (by omega)
              rw [hy] at k1
              have k2 := hfz q3
              have hqi3 : (q3 : Int) < bs.length := by omega
              clear hcl hfz hy
              go_wp2_with fail
              go_roundw
              case rel =>
                refine ⟨q3 + 1, cells.set q3 _, by omega, by go_num, fun j hj => ?_, HT3.out.rowSet q3 _⟩
                rw [List.getElem?_set]
                split
                · obtain ⟨y', hy'⟩ := HY.out j hj
                  have hjl : j < cells.length := by
                    rcases Nat.lt_or_ge j cells.length with h | h
                    · exact h
                    · rw [List.getElem?_eq_none h] at hy'; cases hy'
                  split
                  · exact ⟨_, rfl⟩
                  · omega
                · exact HY.out j hj
              case measure => simp [intOf]; omega
            · have hqi3 : ¬ (q3 : Int) < bs.length := by omega
              have HX := Lib.hid HT3.out.drop
              go_wp2_with (first
                | (go_at_call 68; (with_reducible refine (equal68 (HX.out.bsOf (v := .slice A4 bs.length c4) (bs := bs) (by simp) LB.out) (HX.out.bsOf (v := v5) (bs := bs) (by simp) LB.out)).mono ?_); rintro e w14 ⟨rfl, rfl⟩; simp only [beq_self_eq_true])
                | (go_at_call 71; (with_reducible refine (HX.out.fresh (putNum71i (HX.out.bsOf (v := v5) (bs := bs) (by simp) LB.out) (n / 2) ((n : Int) / 2) HD2.out HN2.out LB10.out)).mono ?_); rintro e w15 ⟨v15, rfl, hS⟩; have HX1 := Lib.hid hS; clear hS)
                | (go_at_call 68; (with_reducible refine (equal68 (HX1.out.bsOf (v := v7) (bs := bs ++ enc (n / 2)) (by simp) LZ2.out) (HX1.out.byBs LZ2.out)).mono ?_); rintro e w16 ⟨rfl, rfl⟩; simp only [beq_self_eq_true])
                | (go_at_call 71; (with_reducible refine (HX1.out.fresh (putNum71 (HX1.out.bsOf (v := v5) (bs := bs) (by simp) LB.out) n HN.out LB10.out)).mono ?_); rintro e w17 ⟨v17, rfl, hS⟩; have HX2 := Lib.hid hS; clear hS)
                | (at_builtin; refine wpList_append_StW rfl (.tmp 128) (.tmp 129) 47 rfl Try.underlying47 info5 rfl Nat.zero_lt_one rfl rfl HX2.out ((HX2.out.bsOf (v := v5) (bs := bs) (by simp) LB.out).rd) o1 f1 f2 ?_; intro A18 c18 w18 hS; have HX3 := Lib.hid (show St W w18 (aRow 5 1 (.slice A18 ((bs ++ enc n).length + bs.length) c18) ((bs ++ enc n).length + bs.length) (cellsB (bs ++ enc n) ++ cellsB bs) :: _) from hS); have hx4 := aRow.bs_app rfl rfl LF.out hS; rw [List.length_append] at hx4; have HX4 := Lib.hid hx4; have HBO := Lib.hid (HX3.out.bsOf (v := .slice A10 k10 c10) (bs := (bs ++ enc n) ++ bs) (by simp) LF.out); clear hS hx4)
                | (go_at_call 68; (with_reducible refine (equal68 HBO.out HX4.out.getBs).mono ?_); rintro e w19 ⟨rfl, rfl⟩; simp only [beq_self_eq_true]))
              go_ret
              exact ⟨by simp, HX4.out.b⟩
end Go.Proofs.Ythgpkbhilkdckaa

/- Leaves and nodes of merkle and of its reference: their bytes, their digests. -/
namespace Go.Proofs.Ythgpkbhilkdckaa
open Go.RowKit
set_option linter.unusedVariables false

def ndB (l r : Int) : List UInt8 := ([1] ++ enc l.toNat) ++ enc r.toNat
def nd1 (l : Int) : List UInt8 := [1] ++ enc l.toNat
theorem St.rsum53r {W w : World} {p : Nat} {M : List (List UInt8)} {X : List Asn} {v : Value} {x : List UInt8} (h : St W w (aRef p M :: X)) (hv : Bs w v x) (hM : M.length ≤ 9223372036854775806) :
    Calls Try.prog 53 #[.pointer (some ⟨p, 0, none⟩), v] w fun e w' => e = .returned (.int .i64 (sumN M x)) ∧ St W w' (aRef p (sumM M x) :: X) := St.rsum53 h hM hv

set_option maxHeartbeats 400000 in
theorem leaf123 {w : World} {v : Value} {bs : List UInt8} (h : Bs w v bs) (hl : bs.length + 1 ≤ big) : Calls Try.prog 123 #[v] w (Fresh w ([0] ++ bs)) := by
  have H := Lib.hid (h.later (B.alloc' w (.cells #[.int .u8 0] 5))).rd
  have R := Lib.hid (World.ownsRow_lit (base := w.heap.size) (e := 5) (size := 1) w #[.int .u8 0] 1 (Nat.le_refl _) (by unfold maxLen; omega) rfl)
  have g1 : 1 + bs.length ≤ maxLen := by unfold big at hl; unfold maxLen; omega
  have g2 : (1 + bs.length) * 1 ≤ 140737488355328 := by unfold big at hl; omega
  have o1 := cellsB_one bs
  have HB := Lib.hid (B.alloc' w (.cells #[.int .u8 0] 5))
  clear h hl
  go_enter Try.func123, Try.ntmps123
  go_wp2_with (at_builtin; refine wpList_append_Rd rfl (.tmp 3) (.tmp 4) 47 rfl Try.underlying47 info5 rfl Nat.zero_lt_one rfl rfl R.out H.out o1 g1 g2 (by simp) ?_; intro A2 c2 w2 r2 x2 y2; have R2 := Lib.hid r2; have HB2 := Lib.hid (B.grown HB.out x2 (fun k hk => row_ge R.out hk)); clear r2 x2 y2)
  go_ret
  exact Fresh.mk R2.out (by simp; omega) rfl HB2.out

set_option maxHeartbeats 400000 in
theorem leaf124 {w : World} {v : Value} {bs : List UInt8} (h : Bs w v bs) (hl : bs.length + 1 ≤ big) : Calls Try.prog 124 #[v] w (Fresh w ([0] ++ bs)) := by
  have H := Lib.hid (h.later (B.alloc' w (.cells #[.int .u8 0] 5))).rd
  have R := Lib.hid (World.ownsRow_lit (base := w.heap.size) (e := 5) (size := 1) w #[.int .u8 0] 1 (Nat.le_refl _) (by unfold maxLen; omega) rfl)
  have g1 : 1 + bs.length ≤ maxLen := by unfold big at hl; unfold maxLen; omega
  have g2 : (1 + bs.length) * 1 ≤ 140737488355328 := by unfold big at hl; omega
  have o1 := cellsB_one bs
  have HB := Lib.hid (B.alloc' w (.cells #[.int .u8 0] 5))
  clear h hl
  go_enter Try.func124, Try.ntmps124
  go_wp2_with (at_builtin; refine wpList_append_Rd rfl (.tmp 3) (.tmp 4) 47 rfl Try.underlying47 info5 rfl Nat.zero_lt_one rfl rfl R.out H.out o1 g1 g2 (by simp) ?_; intro A2 c2 w2 r2 x2 y2; have R2 := Lib.hid r2; have HB2 := Lib.hid (B.grown HB.out x2 (fun k hk => row_ge R.out hk)); clear r2 x2 y2)
  go_ret
  exact Fresh.mk R2.out (by simp; omega) rfl HB2.out

set_option maxHeartbeats 1000000 in
theorem node125 (w : World) (l r : Int) (hl : l ≤ 9223372036854775807) (hr : r ≤ 9223372036854775807) : Calls Try.prog 125 #[.int .i64 l, .int .i64 r] w (Fresh w (ndB l r)) := by
  have b1 := Bs.lit w #[.int .u8 1] [1] 1 rfl rfl (by unfold big; decide)
  have HB := Lib.hid (B.alloc' w (.cells #[.int .u8 1] 5))
  have LL := Lib.hid (show l.toNat < 18446744073709551616 by omega)
  have LR := Lib.hid (show r.toNat < 18446744073709551616 by omega)
  have L1 := Lib.hid (show ([1] : List UInt8).length + 10 ≤ big by unfold big; decide)
  have L2 := Lib.hid (show (nd1 l).length + 10 ≤ big by have := enc_10 LL.out; unfold nd1 big; simp; omega)
  have L3 := Lib.hid (show (nd1 l).length ≤ big by have := L2.out; omega)
  have B1 := Lib.hid b1
  have wl : IntKind.u64.wrap 0 = 0 := by decide
  by_cases h1 : 0 < l
  case' pos =>
    have HKL := Lib.hid (show (l.toNat : Int) = l by omega)
    have wl1 : IntKind.u64.wrap l = l := u64_id (by omega)
    have h1' : 0 < l := h1
  case' neg =>
    have HKL := Lib.hid (show (l.toNat : Int) = 0 by omega)
    have h1' : ¬ 0 < l := h1
  all_goals
    have c1 := Lib.hid ((putNum70i B1.out l.toNat _ HKL.out LL.out L1.out).mono (fun e w' (h : Fresh _ (nd1 l) e w') => h))
    clear h1
    by_cases h2 : 0 < r
    case' pos =>
      have HKR := Lib.hid (show (r.toNat : Int) = r by omega)
      have wr1 : IntKind.u64.wrap r = r := u64_id (by omega)
      have h2' : 0 < r := h2
    case' neg =>
      have HKR := Lib.hid (show (r.toNat : Int) = 0 by omega)
      have h2' : ¬ 0 < r := h2
  all_goals
    clear h2 hl hr b1
    go_enter Try.func125, Try.ntmps125
    go_wp2_with (first
      | (go_at_call 70; (with_reducible refine c1.out.mono ?_); rintro e w1 ⟨v1, rfl, r1, hb1⟩; have V1 := Lib.hid (Bs.of_own r1 L3.out); have HB1 := Lib.hid hb1; clear r1 hb1)
      | (go_at_call 70; (with_reducible refine (putNum70i V1.out r.toNat _ HKR.out LR.out L2.out).mono ?_); rintro e w2 ⟨v2, rfl, r2, hb2⟩; have R2 := Lib.hid r2; have HB2 := Lib.hid hb2; clear r2 hb2))
    go_ret
    exact ⟨_, rfl, row_base R2.out (Nat.le_trans HB.out.size HB1.out.size), (HB.out.trans HB1.out).trans HB2.out⟩

set_option maxHeartbeats 1000000 in
theorem node126 (w : World) (l r : Int) (hl : l ≤ 9223372036854775807) (hr : r ≤ 9223372036854775807) : Calls Try.prog 126 #[.int .i64 l, .int .i64 r] w (Fresh w (ndB l r)) := by
  have b1 := Bs.lit w #[.int .u8 1] [1] 1 rfl rfl (by unfold big; decide)
  have HB := Lib.hid (B.alloc' w (.cells #[.int .u8 1] 5))
  have LL := Lib.hid (show l.toNat < 18446744073709551616 by omega)
  have LR := Lib.hid (show r.toNat < 18446744073709551616 by omega)
  have L1 := Lib.hid (show ([1] : List UInt8).length + 10 ≤ big by unfold big; decide)
  have L2 := Lib.hid (show (nd1 l).length + 10 ≤ big by have := enc_10 LL.out; unfold nd1 big; simp; omega)
  have L3 := Lib.hid (show (nd1 l).length ≤ big by have := L2.out; omega)
  have B1 := Lib.hid b1
  have wl : IntKind.u64.wrap 0 = 0 := by decide
  by_cases h1 : 0 ≤ l
  case' pos =>
    have HKL := Lib.hid (show (l.toNat : Int) = l by omega)
    have wl1 : IntKind.u64.wrap l = l := u64_id (by omega)
    have h1' : 0 ≤ l := h1
  case' neg =>
    have HKL := Lib.hid (show (l.toNat : Int) = 0 by omega)
    have h1' : ¬ 0 ≤ l := h1
  all_goals
    have c1 := Lib.hid ((putNum71i B1.out l.toNat _ HKL.out LL.out L1.out).mono (fun e w' (h : Fresh _ (nd1 l) e w') => h))
    clear h1
    by_cases h2 : 0 ≤ r
    case' pos =>
      have HKR := Lib.hid (show (r.toNat : Int) = r by omega)
      have wr1 : IntKind.u64.wrap r = r := u64_id (by omega)
      have h2' : 0 ≤ r := h2
    case' neg =>
      have HKR := Lib.hid (show (r.toNat : Int) = 0 by omega)
      have h2' : ¬ 0 ≤ r := h2
  all_goals
    clear h2 hl hr b1
    go_enter Try.func126, Try.ntmps126
    go_wp2_with (first
      | (go_at_call 71; (with_reducible refine c1.out.mono ?_); rintro e w1 ⟨v1, rfl, r1, hb1⟩; have V1 := Lib.hid (Bs.of_own r1 L3.out); have HB1 := Lib.hid hb1; clear r1 hb1)
      | (go_at_call 71; (with_reducible refine (putNum71i V1.out r.toNat _ HKR.out LR.out L2.out).mono ?_); rintro e w2 ⟨v2, rfl, r2, hb2⟩; have R2 := Lib.hid r2; have HB2 := Lib.hid hb2; clear r2 hb2))
    go_ret
    exact ⟨_, rfl, row_base R2.out (Nat.le_trans HB.out.size HB1.out.size), (HB.out.trans HB1.out).trans HB2.out⟩

section
variable {W w : World} {p : Nat} {M : List (List UInt8)} {L : List Asn} {v : Value} {b : List UInt8}
theorem ndB_len {l r : Int} (hl : l ≤ 9223372036854775807) (hr : r ≤ 9223372036854775807) : (ndB l r).length ≤ 21 := by
  have h1 := enc_10 (n := l.toNat) (by omega)
  have h2 := enc_10 (n := r.toNat) (by omega)
  unfold ndB; simp; omega

theorem St.leaf93 (h : St W w (aTab p M :: L)) (hM : M.length ≤ 9223372036854775806) (hb : Bs w v b) (hl : b.length + 1 ≤ big) :
    Calls Try.prog 93 #[.pointer (some ⟨p, 0, none⟩), v] w fun e w' => e = .returned (.int .i64 (sumN M ([0] ++ b))) ∧ St W w' (aTab p (sumM M ([0] ++ b)) :: L) := by
  have HC := Lib.hid (h.fresh (leaf123 hb hl))
  have LB := Lib.hid (show ([0] ++ b).length ≤ big by simp; omega)
  have HM := Lib.hid hM
  clear h hb hl hM
  go_enter Try.func93, Try.ntmps93
  go_wp2_with (first
    | (go_at_call 123; (with_reducible refine HC.out.mono ?_); rintro e w1 ⟨v1, rfl, hS⟩; have H1 := Lib.hid hS.swap; clear hS)
    | (go_at_call 52; (with_reducible refine (St.sum52r H1.out rfl LB.out).mono ?_); rintro e w2 ⟨rfl, hS⟩; have H2 := Lib.hid hS.drop2; clear hS))
  go_ret
  exact ⟨rfl, H2.out⟩

theorem St.leaf94 (h : St W w (aRef p M :: L)) (hM : M.length ≤ 9223372036854775806) (hb : Bs w v b) (hl : b.length + 1 ≤ big) :
    Calls Try.prog 94 #[.pointer (some ⟨p, 0, none⟩), v] w fun e w' => e = .returned (.int .i64 (sumN M ([0] ++ b))) ∧ St W w' (aRef p (sumM M ([0] ++ b)) :: L) := by
  have HC := Lib.hid (h.fresh (leaf124 hb hl))
  have LB := Lib.hid (show ([0] ++ b).length ≤ big by simp; omega)
  have HM := Lib.hid hM
  clear h hb hl hM
  go_enter Try.func94, Try.ntmps94
  go_wp2_with (first
    | (go_at_call 124; (with_reducible refine HC.out.mono ?_); rintro e w1 ⟨v1, rfl, hS⟩; have H1 := Lib.hid hS.swap; clear hS)
    | (go_at_call 53; (with_reducible refine (St.rsum53 H1.out HM.out (H1.out.swap.byBs LB.out)).mono ?_); rintro e w2 ⟨rfl, hS⟩; have H2 := Lib.hid hS.drop2; clear hS))
  go_ret
  exact ⟨rfl, H2.out⟩

theorem St.node95 (h : St W w (aTab p M :: L)) (hM : M.length ≤ 9223372036854775806) (l r : Int) (hl : l ≤ 9223372036854775807) (hr : r ≤ 9223372036854775807) :
    Calls Try.prog 95 #[.pointer (some ⟨p, 0, none⟩), .int .i64 l, .int .i64 r] w fun e w' => e = .returned (.int .i64 (sumN M (ndB l r))) ∧ St W w' (aTab p (sumM M (ndB l r)) :: L) := by
  have HC := Lib.hid (h.fresh (node125 w l r hl hr))
  have LB := Lib.hid (show (ndB l r).length ≤ big by have := ndB_len hl hr; unfold big; omega)
  have HM := Lib.hid hM
  clear h hl hr hM
  go_enter Try.func95, Try.ntmps95
  go_wp2_with (first
    | (go_at_call 125; (with_reducible refine HC.out.mono ?_); rintro e w1 ⟨v1, rfl, hS⟩; have H1 := Lib.hid hS.swap; clear hS)
    | (go_at_call 52; (with_reducible refine (St.sum52r H1.out rfl LB.out).mono ?_); rintro e w2 ⟨rfl, hS⟩; have H2 := Lib.hid hS.drop2; clear hS))
  go_ret
  exact ⟨rfl, H2.out⟩

theorem St.node96 (h : St W w (aRef p M :: L)) (hM : M.length ≤ 9223372036854775806) (l r : Int) (hl : l ≤ 9223372036854775807) (hr : r ≤ 9223372036854775807) :
    Calls Try.prog 96 #[.pointer (some ⟨p, 0, none⟩), .int .i64 l, .int .i64 r] w fun e w' => e = .returned (.int .i64 (sumN M (ndB l r))) ∧ St W w' (aRef p (sumM M (ndB l r)) :: L) := by
  have HC := Lib.hid (h.fresh (node126 w l r hl hr))
  have LB := Lib.hid (show (ndB l r).length ≤ big by have := ndB_len hl hr; unfold big; omega)
  have HM := Lib.hid hM
  clear h hl hr hM
  go_enter Try.func96, Try.ntmps96
  go_wp2_with (first
    | (go_at_call 126; (with_reducible refine HC.out.mono ?_); rintro e w1 ⟨v1, rfl, hS⟩; have H1 := Lib.hid hS.swap; clear hS)
    | (go_at_call 53; (with_reducible refine (St.rsum53 H1.out HM.out (H1.out.swap.byBs LB.out)).mono ?_); rintro e w2 ⟨rfl, hS⟩; have H2 := Lib.hid hS.drop2; clear hS))
  go_ret
  exact ⟨rfl, H2.out⟩
end
end Go.Proofs.Ythgpkbhilkdckaa

/- Split and Length of merkle and of its reference. -/
namespace Go.Proofs.Ythgpkbhilkdckaa
open Go.RowKit
set_option linter.unusedVariables false

def splitW (n k : Nat) : Nat := if h : 0 < k ∧ 2 * k < n then splitW n (2 * k) else k
termination_by n - k
decreasing_by omega
theorem splitW_go {n k : Nat} (h : 0 < k ∧ 2 * k < n) : splitW n k = splitW n (2 * k) := by rw [splitW, dif_pos h]
theorem splitW_end {n k : Nat} (h : ¬ (0 < k ∧ 2 * k < n)) : splitW n k = k := by rw [splitW, dif_neg h]
/-- the greatest power of two below n -/
def splitN (n : Nat) : Nat := if n < 2 then 0 else splitW n 1
theorem splitW_bd (n : Nat) : ∀ m k, n - k = m → 0 < k → k < n → 0 < splitW n k ∧ splitW n k < n := by
  intro m
  induction m using Nat.strongRecOn with
  | ind m ih =>
    intro k hm h0 hk
    by_cases h : 0 < k ∧ 2 * k < n
    · rw [splitW_go h]; exact ih (n - 2 * k) (by omega) (2 * k) rfl (by omega) h.2
    · rw [splitW_end h]; exact ⟨h0, hk⟩
theorem splitN_bd {n : Nat} (h : 2 ≤ n) : 0 < splitN n ∧ splitN n < n := by
  unfold splitN; rw [if_neg (by omega)]; exact splitW_bd n _ 1 rfl (by omega) (by omega)
def lenW (i n : Nat) : Nat := if h : 2 ≤ n then (if i < splitN n then lenW i (splitN n) else lenW (i - splitN n) (n - splitN n)) + 1 else 0
termination_by n
decreasing_by
  · exact (splitN_bd h).2
  · have := splitN_bd h; omega
theorem lenW_lt {i n : Nat} (h : 2 ≤ n) (hi : i < splitN n) : lenW i n = lenW i (splitN n) + 1 := by rw [lenW, dif_pos h, if_pos hi]
theorem lenW_ge {i n : Nat} (h : 2 ≤ n) (hi : ¬ i < splitN n) : lenW i n = lenW (i - splitN n) (n - splitN n) + 1 := by rw [lenW, dif_pos h, if_neg hi]
theorem lenW_one {i n : Nat} (h : ¬ 2 ≤ n) : lenW i n = 0 := by rw [lenW, dif_neg h]
theorem lenW_le : ∀ n i, lenW i n ≤ n := by
  intro n
  induction n using Nat.strongRecOn with
  | ind n ih =>
    intro i
    by_cases h : 2 ≤ n
    · have hb := splitN_bd h
      by_cases hi : i < splitN n
      · rw [lenW_lt h hi]; have := ih _ hb.2 i; omega
      · rw [lenW_ge h hi]; have := ih (n - splitN n) (by omega) (i - splitN n); omega
    · rw [lenW_one h]; omega
/-- how many digests a proof has -/
def lenF (i n : Int) : Nat := if i < 0 ∨ n ≤ i then 0 else lenW i.toNat n.toNat

set_option maxHeartbeats 1000000 in
theorem split97 (w : World) (n : Int) (hn : n ≤ 9223372036854775807) : Calls Try.prog 97 #[.int .i64 n] w fun e w' => e = .returned (.int .i64 (splitN n.toNat : Int)) ∧ w = w' := by
  by_cases h2 : n < 2
  · have E := Lib.hid (show (0 : Int) = (splitN n.toNat : Int) by unfold splitN; rw [if_pos (by omega)]; rfl)
    clear hn
    go_enter Try.func97, Try.ntmps97
    go_wp2
    go_ret
    exact ⟨retI E.out, rfl⟩
  · obtain ⟨m, hm⟩ := Int.eq_ofNat_of_zero_le (show 0 ≤ n by omega)
    subst hm
    have h2' : ¬ (m : Int) < 2 := h2
    have hmn : (m : Int) ≤ 9223372036854775807 := hn
    have E := Lib.hid (show splitW m 1 = splitN (m : Int).toNat by rw [Int.toNat_natCast]; unfold splitN; rw [if_neg (by omega)])
    clear hn h2
    go_enter Try.func97, Try.ntmps97
    go_wp2_with fail
    go_loop [3] (fun k => ∃ q : Nat, 0 < q ∧ q < m ∧ k = .int .i64 (q : Int) ∧ Hid (splitW m q = splitW m 1)) (fun k => m - (intOf k).toNat)
    case atStart => exact ⟨1, by omega, by omega, rfl, rfl⟩
    case round =>
      obtain ⟨q, hq, hqm, rfl, HQ⟩ := hrel
      have hqi : (q : Int) < m := by omega
      have hq0 : (0 : Int) < q := by omega
      by_cases h : 2 * q < m
      · have hd : (q : Int) < (m : Int) - (q : Int) := by omega
        go_wp2_with fail
        go_round
        case rel => exact ⟨2 * q, by omega, h, by go_num, by show _ = _; rw [← HQ.out, splitW_go ⟨hq, h⟩]⟩
        case measure => simp [intOf]; omega
      · have hd : ¬ (q : Int) < (m : Int) - (q : Int) := by omega
        have E2 := Lib.hid (show (q : Int) = (splitN (m : Int).toNat : Int) by rw [← E.out, ← HQ.out, splitW_end (by omega)])
        go_wp2_with fail
        go_ret
        exact ⟨retI E2.out, rfl⟩

set_option maxHeartbeats 1000000 in
theorem split98 (w : World) (n : Int) (hn : n ≤ 9223372036854775807) : Calls Try.prog 98 #[.int .i64 n] w fun e w' => e = .returned (.int .i64 (splitN n.toNat : Int)) ∧ w = w' := by
  by_cases h2 : n < 2
  · have E := Lib.hid (show (0 : Int) = (splitN n.toNat : Int) by unfold splitN; rw [if_pos (by omega)]; rfl)
    clear hn
    go_enter Try.func98, Try.ntmps98
    go_wp2
    go_ret
    exact ⟨retI E.out, rfl⟩
  · obtain ⟨m, hm⟩ := Int.eq_ofNat_of_zero_le (show 0 ≤ n by omega)
    subst hm
    have h2' : ¬ (m : Int) < 2 := h2
    have hmn : (m : Int) ≤ 9223372036854775807 := hn
    have E := Lib.hid (show splitW m 1 = splitN (m : Int).toNat by rw [Int.toNat_natCast]; unfold splitN; rw [if_neg (by omega)])
    clear hn h2
    go_enter Try.func98, Try.ntmps98
    go_wp2_with fail
    go_loop [3] (fun k => ∃ q : Nat, 0 < q ∧ q < m ∧ k = .int .i64 (q : Int) ∧ Hid (splitW m q = splitW m 1)) (fun k => m - (intOf k).toNat)
    case atStart => exact ⟨1, by omega, by omega, rfl, rfl⟩
    case round =>
      obtain ⟨q, hq, hqm, rfl, HQ⟩ := hrel
      have hqi : (q : Int) < m := by omega
      have hq0 : (0 : Int) < q := by omega
      by_cases h : 2 * q < m
      · have hd : (q : Int) < (m : Int) - (q : Int) := by omega
        go_wp2_with fail
        go_round
        case rel => exact ⟨2 * q, by omega, h, by go_num, by show _ = _; rw [← HQ.out, splitW_go ⟨hq, h⟩]⟩
        case measure => simp [intOf]; omega
      · have hd : ¬ (q : Int) < (m : Int) - (q : Int) := by omega
        have E2 := Lib.hid (show (q : Int) = (splitN (m : Int).toNat : Int) by rw [← E.out, ← HQ.out, splitW_end (by omega)])
        go_wp2_with fail
        go_ret
        exact ⟨retI E2.out, rfl⟩

set_option maxHeartbeats 1000000 in
theorem length99 (w : World) (i n : Int) (hi : i ≤ 9223372036854775807) (hn : n ≤ 9223372036854775807) : Calls Try.prog 99 #[.int .i64 i, .int .i64 n] w fun e w' => e = .returned (.int .i64 (lenF i n : Int)) ∧ w = w' := by
  by_cases h0 : i < 0 ∨ n ≤ i
  · have E := Lib.hid (show (0 : Int) = (lenF i n : Int) by unfold lenF; rw [if_pos h0]; rfl)
    by_cases h1 : i < 0
    · clear hi hn h0
      go_enter Try.func99, Try.ntmps99
      go_wp2
      go_ret
      exact ⟨retI E.out, rfl⟩
    · have h2 : n ≤ i := by omega
      clear hi hn h0
      go_enter Try.func99, Try.ntmps99
      go_wp2
      go_ret
      exact ⟨retI E.out, rfl⟩
  · obtain ⟨j, hj⟩ := Int.eq_ofNat_of_zero_le (show 0 ≤ i by omega)
    obtain ⟨m, hm⟩ := Int.eq_ofNat_of_zero_le (show 0 ≤ n by omega)
    subst hj hm
    have hjm : (j : Int) < m := by omega
    have h00 : ¬ (j : Int) < 0 := by omega
    have h01 : ¬ (m : Int) ≤ j := by omega
    have E := Lib.hid (show lenF j m = lenW j m by unfold lenF; rw [if_neg h0]; simp)
    have HM := Lib.hid (show m ≤ 9223372036854775807 by omega)
    have HLE := Lib.hid (lenW_le m j)
    clear h0 hi hn
    go_enter Try.func99, Try.ntmps99
    go_wp2_with fail
    go_loop [0, 1, 5] (fun x y c => ∃ (a b k : Nat), x = .int .i64 (a : Int) ∧ y = .int .i64 (b : Int) ∧ c = .int .i64 (k : Int) ∧ a < b ∧ Hid (b ≤ m) ∧ Hid (k + lenW a b = lenW j m)) (fun _ y _ => (intOf y).toNat)
    case atStart => exact ⟨j, m, 0, rfl, rfl, rfl, by omega, Nat.le_refl _, by show _ = _; omega⟩
    case round =>
      obtain ⟨a, b, k, rfl, rfl, rfl, hab, HB, HK⟩ := hrel
      by_cases h2 : 2 ≤ b
      · have hbi : (1 : Int) < b := by omega
        have hbd := splitN_bd h2
        have HBD := Lib.hid hbd
        have HS := Lib.hid (split97 w (b : Int) (by have := HB.out; have := HM.out; omega))
        have hk : (k : Int) < 9223372036854775807 := by
          have h1 := HK.out; have h3 := HLE.out; have h4 := HM.out
          by_cases ha : a < splitN b
          · rw [lenW_lt h2 ha] at h1; omega
          · rw [lenW_ge h2 ha] at h1; omega
        have e0 : (b : Int).toNat = b := Int.toNat_natCast b
        have hb63 : (b : Int) ≤ 9223372036854775807 := by have := HB.out; have := HM.out; omega
        have habi : (a : Int) < b := by omega
        rw [e0] at HS
        by_cases ha : a < splitN b
        · have HK2 := Lib.hid (show k + 1 + lenW a (splitN b) = lenW j m by have := HK.out; rw [lenW_lt h2 ha] at this; omega)
          have hai : (a : Int) < (splitN b : Int) := by omega
          generalize splitN b = sp at *
          clear hbd e0
          go_wp2_with (first | (go_at_call 97; (with_reducible refine HS.out.mono ?_); rintro e w1 ⟨rfl, rfl⟩))
          go_round
          case rel => exact ⟨a, sp, k + 1, rfl, rfl, by go_num, ha, by have := HBD.out; have := HB.out; show _ ≤ _; omega, HK2.out⟩
          case measure => have := HBD.out; simp [intOf]; omega
        · have HK2 := Lib.hid (show k + 1 + lenW (a - splitN b) (b - splitN b) = lenW j m by have := HK.out; rw [lenW_ge h2 ha] at this; omega)
          have hai : ¬ (a : Int) < (splitN b : Int) := by omega
          have hsb : (splitN b : Int) < b := by omega
          generalize splitN b = sp at *
          clear hbd e0
          go_wp2_with (first | (go_at_call 97; (with_reducible refine HS.out.mono ?_); rintro e w1 ⟨rfl, rfl⟩))
          go_round
          case rel => exact ⟨a - sp, b - sp, k + 1, by go_num, by go_num, by go_num, by omega, by have := HB.out; show _ ≤ _; omega, HK2.out⟩
          case measure => have := HBD.out; simp [intOf]; omega
      · have hbi : ¬ (1 : Int) < b := by omega
        have E2 := Lib.hid (show (k : Int) = (lenF j m : Int) by rw [E.out, ← HK.out, lenW_one h2]; rfl)
        go_wp2_with fail
        go_ret
        exact ⟨retI E2.out, rfl⟩

set_option maxHeartbeats 1000000 in
theorem length100 (w : World) (i n : Int) (hi : i ≤ 9223372036854775807) (hn : n ≤ 9223372036854775807) : Calls Try.prog 100 #[.int .i64 i, .int .i64 n] w fun e w' => e = .returned (.int .i64 (lenF i n : Int)) ∧ w = w' := by
  by_cases h0 : i < 0 ∨ n ≤ i
  · have E := Lib.hid (show (0 : Int) = (lenF i n : Int) by unfold lenF; rw [if_pos h0]; rfl)
    by_cases h1 : i < 0
    · clear hi hn h0
      go_enter Try.func100, Try.ntmps100
      go_wp2
      go_ret
      exact ⟨retI E.out, rfl⟩
    · have h2 : n ≤ i := by omega
      clear hi hn h0
      go_enter Try.func100, Try.ntmps100
      go_wp2
      go_ret
      exact ⟨retI E.out, rfl⟩
  · obtain ⟨j, hj⟩ := Int.eq_ofNat_of_zero_le (show 0 ≤ i by omega)
    obtain ⟨m, hm⟩ := Int.eq_ofNat_of_zero_le (show 0 ≤ n by omega)
    subst hj hm
    have hjm : (j : Int) < m := by omega
    have h00 : ¬ (j : Int) < 0 := by omega
    have h01 : ¬ (m : Int) ≤ j := by omega
    have E := Lib.hid (show lenF j m = lenW j m by unfold lenF; rw [if_neg h0]; simp)
    have HM := Lib.hid (show m ≤ 9223372036854775807 by omega)
    have HLE := Lib.hid (lenW_le m j)
    clear h0 hi hn
    go_enter Try.func100, Try.ntmps100
    go_wp2_with fail
    go_loop [0, 1, 5] (fun x y c => ∃ (a b k : Nat), x = .int .i64 (a : Int) ∧ y = .int .i64 (b : Int) ∧ c = .int .i64 (k : Int) ∧ a < b ∧ Hid (b ≤ m) ∧ Hid (k + lenW a b = lenW j m)) (fun _ y _ => (intOf y).toNat)
    case atStart => exact ⟨j, m, 0, rfl, rfl, rfl, by omega, Nat.le_refl _, by show _ = _; omega⟩
    case round =>
      obtain ⟨a, b, k, rfl, rfl, rfl, hab, HB, HK⟩ := hrel
      by_cases h2 : 2 ≤ b
      · have hbi : (1 : Int) < b := by omega
        have hbd := splitN_bd h2
        have HBD := Lib.hid hbd
        have HS := Lib.hid (split98 w (b : Int) (by have := HB.out; have := HM.out; omega))
        have hk : (k : Int) < 9223372036854775807 := by
          have h1 := HK.out; have h3 := HLE.out; have h4 := HM.out
          by_cases ha : a < splitN b
          · rw [lenW_lt h2 ha] at h1; omega
          · rw [lenW_ge h2 ha] at h1; omega
        have e0 : (b : Int).toNat = b := Int.toNat_natCast b
        have hb63 : (b : Int) ≤ 9223372036854775807 := by have := HB.out; have := HM.out; omega
        have habi : (a : Int) < b := by omega
        rw [e0] at HS
        by_cases ha : a < splitN b
        · have HK2 := Lib.hid (show k + 1 + lenW a (splitN b) = lenW j m by have := HK.out; rw [lenW_lt h2 ha] at this; omega)
          have hai : (a : Int) < (splitN b : Int) := by omega
          generalize splitN b = sp at *
          clear hbd e0
          go_wp2_with (first | (go_at_call 98; (with_reducible refine HS.out.mono ?_); rintro e w1 ⟨rfl, rfl⟩))
          go_round
          case rel => exact ⟨a, sp, k + 1, rfl, rfl, by go_num, ha, by have := HBD.out; have := HB.out; show _ ≤ _; omega, HK2.out⟩
          case measure => have := HBD.out; simp [intOf]; omega
        · have HK2 := Lib.hid (show k + 1 + lenW (a - splitN b) (b - splitN b) = lenW j m by have := HK.out; rw [lenW_ge h2 ha] at this; omega)
          have hai : ¬ (a : Int) < (splitN b : Int) := by omega
          have hsb : (splitN b : Int) < b := by omega
          generalize splitN b = sp at *
          clear hbd e0
          go_wp2_with (first | (go_at_call 98; (with_reducible refine HS.out.mono ?_); rintro e w1 ⟨rfl, rfl⟩))
          go_round
          case rel => exact ⟨a - sp, b - sp, k + 1, by go_num, by go_num, by go_num, by omega, by have := HB.out; show _ ≤ _; omega, HK2.out⟩
          case measure => have := HBD.out; simp [intOf]; omega
      · have hbi : ¬ (1 : Int) < b := by omega
        have E2 := Lib.hid (show (k : Int) = (lenF j m : Int) by rw [E.out, ← HK.out, lenW_one h2]; rfl)
        go_wp2_with fail
        go_ret
        exact ⟨retI E2.out, rfl⟩
end Go.Proofs.Ythgpkbhilkdckaa

/- Lists of byte strings cut; Root of merkle and of its reference. -/
namespace Go.Proofs.Ythgpkbhilkdckaa
open Go.RowKit Go.Deep
set_option linter.unusedVariables false

theorem size47 (w : World) : (sizeOf 47).run Try.prog w = .ok 1 w := by kernel_rfl
theorem elem46 : Try.prog.elem 46 = 47 := by kernel_rfl
/-- 'v[:k]' -/
theorem Lss.to {inn : Nat → Prop} {w : World} {A : Option Addr} {c : Nat} {L : List (List UInt8)} (h : Lss inn w (.slice A L.length c) L) (k : Nat) (hk : k ≤ L.length) : Lss inn w (.slice A k c) (L.take k) := by
  obtain ⟨A', c', hv, hn, hc, hm, hr⟩ := h
  injection hv with e1 _ e2
  subst e1 e2
  refine ⟨A, c, by rw [List.length_take, Nat.min_eq_left hk], fun e => ?_, by simp; omega, hm, fun h0 => ?_⟩
  · have := hn e; simp; omega
  · obtain ⟨b, off, hA, hb, hi, hx⟩ := hr (by simp at h0; omega)
    refine ⟨b, off, hA, hb, hi, fun i x hix => hx i x ?_⟩
    rw [List.getElem?_take] at hix
    split at hix
    · exact hix
    · cases hix
theorem Lss.runTo {A : Option Addr} {n c k : Nat} (hk : k ≤ n) (hn : n ≤ c) (w : World) : (Instr.slice 46 (.slice A n c) none (some (.int .i64 (k : Int))) none).run Try.prog w = .ok (.slice A k c) w ∧ (Instr.sliceAt 46 (.slice A n c) none (some (.int .i64 (k : Int))) none).run Try.prog w = .ok (.slice A k c) w := by
  have h1 : (Instr.slice 46 (.slice A n c) none (some (.int .i64 (k : Int))) none).run Try.prog w = .ok (.slice A k c) w := by
    rw [run_slice_h (P := Try.prog) (w := w) (t := 46) (a := A) (len := n) (cap := c) (by rw [elem46]; exact Try.underlying46) .i64 (k : Int) (by omega) (by omega), elem46, size47]
    simp [Result.andThen, sliced, Addr.add]
  exact ⟨h1, by rw [run_sliceAt_slice (P := Try.prog) (w := w) (t := 46) (h := by rw [elem46]; exact Try.underlying46)]; exact h1⟩
/-- where 'v[k:]' begins -/
def cutA (A : Option Addr) (c k : Nat) : Option Addr := if c = k then A else A.map (·.add k)
theorem Lss.from_ {inn : Nat → Prop} {w : World} {A : Option Addr} {c : Nat} {L : List (List UInt8)} (h : Lss inn w (.slice A L.length c) L) (k : Nat) (hk : k ≤ L.length) : Lss inn w (.slice (cutA A c k) (L.length - k) (c - k)) (L.drop k) := by
  obtain ⟨A', c', hv, hn, hc, hm, hr⟩ := h
  injection hv with e1 _ e2
  subst e1 e2
  refine ⟨cutA A c k, c - k, by rw [List.length_drop], fun e => ?_, by simp; omega, by omega, fun h0 => ?_⟩
  · unfold cutA at e
    by_cases hck : c = k
    · simp; omega
    · rw [if_neg hck] at e
      cases A with
      | none => have := hn rfl; simp; omega
      | some a => simp at e
  · have h0' : 0 < L.length - k := by simpa using h0
    obtain ⟨b, off, hA, hb, hi, hx⟩ := hr (by omega)
    subst hA
    refine ⟨b, off + k, ?_, hb, hi, fun i x hix => ?_⟩
    · unfold cutA
      rw [if_neg (by omega)]
      simp [addr_add]
    · rw [List.getElem?_drop] at hix
      obtain ⟨u, h1, h2, h3⟩ := hx _ x hix
      exact ⟨u, by rw [Nat.add_assoc]; exact h1, h2, h3⟩
theorem Lss.runFrom {A : Option Addr} {n c k : Nat} (hk : k ≤ n) (hn : n ≤ c) (w : World) : (Instr.slice 46 (.slice A n c) (some (.int .i64 (k : Int))) none none).run Try.prog w = .ok (.slice (cutA A c k) (n - k) (c - k)) w ∧ (Instr.sliceAt 46 (.slice A n c) (some (.int .i64 (k : Int))) none none).run Try.prog w = .ok (.slice (cutA A c k) (n - k) (c - k)) w := by
  have h1 : (Instr.slice 46 (.slice A n c) (some (.int .i64 (k : Int))) none none).run Try.prog w = .ok (.slice (cutA A c k) (n - k) (c - k)) w := by
    rw [run_slice_l (P := Try.prog) (w := w) (t := 46) (a := A) (len := n) (cap := c) (by rw [elem46]; exact Try.underlying46) .i64 (k : Int) (by omega) (by omega), elem46, size47]
    simp [Result.andThen, sliced, cutA]
  exact ⟨h1, by rw [run_sliceAt_slice (P := Try.prog) (w := w) (t := 46) (h := by rw [elem46]; exact Try.underlying46)]; exact h1⟩
/-- the digest over leaves, and the table behind it -/
def rootF (M : List (List UInt8)) (L : List (List UInt8)) : Int × List (List UInt8) :=
  if h : 2 ≤ L.length then
    let r1 := rootF M (L.take (splitN L.length))
    let r2 := rootF r1.2 (L.drop (splitN L.length))
    (sumN r2.2 (ndB r1.1 r2.1), sumM r2.2 (ndB r1.1 r2.1))
  else match L with
    | [] => (sumN M [2], sumM M [2])
    | x :: _ => (sumN M ([0] ++ x), sumM M ([0] ++ x))
termination_by L.length
decreasing_by
  · have := splitN_bd h; simp; omega
  · have := splitN_bd h; simp; omega
theorem rootF_two {M L : List (List UInt8)} (h : 2 ≤ L.length) : rootF M L = (sumN (rootF (rootF M (L.take (splitN L.length))).2 (L.drop (splitN L.length))).2 (ndB (rootF M (L.take (splitN L.length))).1 (rootF (rootF M (L.take (splitN L.length))).2 (L.drop (splitN L.length))).1),
    sumM (rootF (rootF M (L.take (splitN L.length))).2 (L.drop (splitN L.length))).2 (ndB (rootF M (L.take (splitN L.length))).1 (rootF (rootF M (L.take (splitN L.length))).2 (L.drop (splitN L.length))).1)) := by
  conv => lhs; rw [rootF]
  rw [dif_pos h]
theorem rootF_nil (M : List (List UInt8)) : rootF M [] = (sumN M [2], sumM M [2]) := by rw [rootF]; simp
theorem rootF_one (M : List (List UInt8)) (x : List UInt8) : rootF M [x] = (sumN M ([0] ++ x), sumM M ([0] ++ x)) := by rw [rootF]; simp
theorem sumM_le {M : List (List UInt8)} (h : M.length ≤ 1048576) (b : List UInt8) : (sumM M b).length ≤ 1048576 := by
  unfold sumM
  split
  · exact h
  · split
    · exact h
    · simp; omega
theorem sumN_bd {M : List (List UInt8)} (h : M.length ≤ 1048576) (b : List UInt8) : 0 ≤ sumN M b ∧ sumN M b ≤ 1048576 := by
  unfold sumN
  split
  · unfold lkN
    cases hl : look b M 0 with
    | none => simp
    | some d => have := look_some hl; simp; omega
  · split
    · omega
    · omega
theorem rootF_bd : ∀ (n : Nat) (L : List (List UInt8)), L.length = n → ∀ M : List (List UInt8), M.length ≤ 1048576 → (rootF M L).2.length ≤ 1048576 ∧ 0 ≤ (rootF M L).1 ∧ (rootF M L).1 ≤ 1048576 := by
  intro n
  induction n using Nat.strongRecOn with
  | ind n ih =>
    intro L hL M hM
    by_cases h2 : 2 ≤ L.length
    · have hb := splitN_bd h2
      rw [rootF_two h2]
      have h1 := ih _ (by simp; omega) (L.take (splitN L.length)) rfl M hM
      have h3 := ih _ (by simp; omega) (L.drop (splitN L.length)) rfl _ h1.1
      exact ⟨sumM_le h3.1 _, sumN_bd h3.1 _⟩
    · match L, hL, h2 with
      | [], _, _ => rw [rootF_nil]; exact ⟨sumM_le hM _, sumN_bd hM _⟩
      | [x], _, _ => rw [rootF_one]; exact ⟨sumM_le hM _, sumN_bd hM _⟩
      | x :: y :: r, _, h2 => simp at h2

section
variable {W w : World} {p : Nat} {M : List (List UInt8)} {X : List Asn}
/-- bytes written out, summed -/
theorem St.sum52c (h : St W w (aTab p M :: X)) (y : UInt8) (z : Int) (hz : (y.toNat : Int) = z) : Calls Try.prog 52 #[.pointer (some ⟨p, 0, none⟩), .slice (some ⟨w.heap.size, 0, none⟩) 1 1] (w.alloc (.cells #[.int .u8 z] 5)) fun e w' => e = .returned (.int .i64 (sumN M [y])) ∧ St W w' (aTab p (sumM M [y]) :: X) := by
  subst hz
  have h1 := (h.add (B.alloc' w (.cells #[.int .u8 (y.toNat : Int)] 5)) (A := aBs (.slice (some ⟨w.heap.size, 0, none⟩) 1 1) [y]) (own := fun x => x = w.heap.size) ⟨Bs.lit w #[.int .u8 (y.toNat : Int)] [y] 1 rfl rfl (by unfold big; simp), fun g hg _ => by simpa [Value.ownBlock] using hg.symm⟩ (fun x e => by omega)).swap
  exact h1.sum52'.mono fun e w' ⟨he, hS⟩ => ⟨he, hS.drop2⟩
theorem St.sum53c (h : St W w (aRef p M :: X)) (hM : M.length ≤ 9223372036854775806) (y : UInt8) (z : Int) (hz : (y.toNat : Int) = z) : Calls Try.prog 53 #[.pointer (some ⟨p, 0, none⟩), .slice (some ⟨w.heap.size, 0, none⟩) 1 1] (w.alloc (.cells #[.int .u8 z] 5)) fun e w' => e = .returned (.int .i64 (sumN M [y])) ∧ St W w' (aRef p (sumM M [y]) :: X) := by
  subst hz
  exact St.rsum53 (h.later (B.alloc' w (.cells #[.int .u8 (y.toNat : Int)] 5))) hM (Bs.lit w #[.int .u8 (y.toNat : Int)] [y] 1 rfl rfl (by unfold big; simp))
end

section
variable {W : World} {p : Nat} {X : List Asn}
set_option maxRecDepth 20000 in
set_option maxHeartbeats 4000000 in
theorem St.root101 : ∀ (n : Nat) (L : List (List UInt8)), L.length = n → (∀ x ∈ L, x.length + 1 ≤ big) → ∀ (M : List (List UInt8)) (w : World) (A : Option Addr) (c : Nat), M.length ≤ 1048576 →
    (∀ (w' : World) (M' : List (List UInt8)), St W w' (aTab p M' :: X) → ∃ inn, Lss inn w' (.slice A n c) L) → St W w (aTab p M :: X) →
    Calls Try.prog 101 #[.pointer (some ⟨p, 0, none⟩), .slice A n c] w fun e w' => e = .returned (.int .i64 (rootF M L).1) ∧ St W w' (aTab p (rootF M L).2 :: X) := by
  intro n
  induction n using Nat.strongRecOn with
  | ind n ih =>
    intro L hL hlen M w A c hM hv h
    have HV := Lib.hid hv
    have HH := Lib.hid h
    obtain ⟨inn, hl⟩ := hv w M h
    have HLS := Lib.hid hl
    have HM := Lib.hid hM
    have HLEN := Lib.hid hlen
    have hmi : M.length ≤ 9223372036854775806 := by omega
    have HMI := Lib.hid hmi
    obtain ⟨A', c', hv', hnn, hc1, hm1, hr⟩ := id hl
    injection hv' with e1 e0 e2
    subst e1 e2
    clear hnn
    have hn63 : (n : Int) ≤ 9223372036854775807 := by unfold maxLen at hm1; omega
    have HC1 := Lib.hid hc1
    by_cases h2 : 2 ≤ n
    · have hb := splitN_bd h2
      have hbd1 := rootF_bd _ (L.take (splitN n)) rfl M hM
      have hbd2 := rootF_bd _ (L.drop (splitN n)) rfl _ hbd1.1
      have E := Lib.hid (rootF_two (M := M) (L := L) (by omega))
      rw [hL] at E
      have HSP := Lib.hid (split97 w (n : Int) hn63)
      rw [Int.toNat_natCast] at HSP
      have ih1 := ih (splitN n) hb.2 (L.take (splitN n)) (by simp; omega) (fun x hx => hlen x (List.mem_of_mem_take hx)) M w A c hM (fun w' M' h' => by
        obtain ⟨inn, hl⟩ := hv w' M' h'
        rw [← hL] at hl
        exact ⟨inn, by rw [hL] at hl; have := (show Lss inn w' (.slice A L.length c) L by rw [hL]; exact hl).to (splitN n) (by omega); exact this⟩) h
      have IH1 := Lib.hid ih1
      have ih2 := fun (w2 : World) (h2 : St W w2 (aTab p (rootF M (L.take (splitN n))).2 :: X)) => ih (n - splitN n) (by omega) (L.drop (splitN n)) (by simp; omega) (fun x hx => hlen x (List.mem_of_mem_drop hx)) (rootF M (L.take (splitN n))).2 w2 (cutA A c (splitN n)) (c - splitN n) hbd1.1 (fun w' M' h' => by
        obtain ⟨inn, hl⟩ := hv w' M' h'
        have := (show Lss inn w' (.slice A L.length c) L by rw [hL]; exact hl).from_ (splitN n) (by omega)
        rw [hL] at this
        exact ⟨inn, this⟩) h2
      have IH2 := Lib.hid ih2
      have HND := Lib.hid (fun (w3 : World) (h3 : St W w3 (aTab p (rootF (rootF M (L.take (splitN n))).2 (L.drop (splitN n))).2 :: X)) => St.node95 h3 (by have := hbd2.1; omega) (rootF M (L.take (splitN n))).1 (rootF (rootF M (L.take (splitN n))).2 (L.drop (splitN n))).1 (by omega) (by omega))
      rw [E.out]
      have hsn : (splitN n : Int) ≤ n := by omega
      have r1 : ∀ w' : World, (Instr.slice 46 (.slice A n c) none (some (.int .i64 (splitN n : Int))) none).run Try.prog w' = .ok (.slice A (splitN n) c) w' := fun w' => (Lss.runTo (by omega) (by omega) w').1
      have r2 : ∀ w' : World, (Instr.sliceAt 46 (.slice A n c) none (some (.int .i64 (splitN n : Int))) none).run Try.prog w' = .ok (.slice A (splitN n) c) w' := fun w' => (Lss.runTo (by omega) (by omega) w').2
      have r3 : ∀ w' : World, (Instr.slice 46 (.slice A n c) (some (.int .i64 (splitN n : Int))) none none).run Try.prog w' = .ok (.slice (cutA A c (splitN n)) (n - splitN n) (c - splitN n)) w' := fun w' => (Lss.runFrom (by omega) (by omega) w').1
      have r4 : ∀ w' : World, (Instr.sliceAt 46 (.slice A n c) (some (.int .i64 (splitN n : Int))) none none).run Try.prog w' = .ok (.slice (cutA A c (splitN n)) (n - splitN n) (c - splitN n)) w' := fun w' => (Lss.runFrom (by omega) (by omega) w').2
      have q0 : ((n : Int) == 0) = false := by simp; omega
      have q1 : ((n : Int) == 1) = false := by simp; omega
      generalize rootF (rootF M (L.take (splitN n))).2 (L.drop (splitN n)) = t2 at *
      generalize rootF M (L.take (splitN n)) = t1 at *
      generalize cutA A c (splitN n) = A2 at *
      generalize n - splitN n = n2 at *
      generalize c - splitN n = c2 at *
      generalize splitN n = sp at *
      clear hb hbd1 hbd2 ih1 ih2 ih hlen hM hv h hl hr hc1 hm1 h2 hL E HLS hmi e0
      go_enter Try.func101, Try.ntmps101
      go_wp2_with (first
        | (go_at_call 97; (with_reducible refine HSP.out.mono ?_); rintro e w1 ⟨rfl, rfl⟩)
        | (go_at_call 101; (with_reducible refine IH1.out.mono ?_); rintro e w2 ⟨rfl, hS⟩; have H2 := Lib.hid hS; clear hS)
        | (go_at_call 101; (with_reducible refine (IH2.out _ H2.out).mono ?_); rintro e w3 ⟨rfl, hS⟩; have H3 := Lib.hid hS; clear hS)
        | (go_at_call 95; (with_reducible refine (HND.out _ H3.out).mono ?_); rintro e w4 ⟨rfl, hS⟩; have H4 := Lib.hid hS; clear hS))
      go_ret
      exact ⟨rfl, H4.out⟩
    · match L, hL with
      | [], hL =>
        obtain rfl : n = 0 := by simpa using hL.symm
        rw [rootF_nil]
        have HS := Lib.hid (St.sum52c h 2 2 rfl)
        clear ih hlen hM hv h hl hr hc1 hm1 h2 HLS hmi hn63 e0
        go_enter Try.func101, Try.ntmps101
        go_wp2_with (first
          | (go_at_call 52; (with_reducible refine HS.out.mono ?_); rintro e w2 ⟨rfl, hS⟩; have H2 := Lib.hid hS; clear hS))
        go_ret
        exact ⟨rfl, H2.out⟩
      | [x], hL =>
        obtain rfl : n = 1 := by simpa using hL.symm
        rw [rootF_one]
        obtain ⟨b, off, rfl, hb, _, hx⟩ := hr (by simp)
        obtain ⟨u, k1, k2, _⟩ := hx 0 x rfl
        have HS := Lib.hid (St.leaf93 h hmi k2 (hlen x (by simp)))
        have k1 : w.cell? ⟨b, off, none⟩ = some u := by simpa using k1
        clear ih hlen hM hv h hl hr hc1 hm1 h2 HLS hmi hx k2 hn63 e0
        go_enter Try.func101, Try.ntmps101
        go_wp2_with (first
          | (go_at_call 93; (with_reducible refine HS.out.mono ?_); rintro e w2 ⟨rfl, hS⟩; have H2 := Lib.hid hS; clear hS))
        go_ret
        exact ⟨rfl, H2.out⟩
      | y :: z :: r, hL => exact absurd (by simp at hL; omega) h2
end

section
variable {W : World} {p : Nat} {X : List Asn}
set_option maxRecDepth 20000 in
set_option maxHeartbeats 4000000 in
theorem St.root104 : ∀ (n : Nat) (L : List (List UInt8)), L.length = n → (∀ x ∈ L, x.length + 1 ≤ big) → ∀ (M : List (List UInt8)) (w : World) (A : Option Addr) (c : Nat), M.length ≤ 1048576 →
    (∀ (w' : World) (M' : List (List UInt8)), St W w' (aRef p M' :: X) → ∃ inn, Lss inn w' (.slice A n c) L) → St W w (aRef p M :: X) →
    Calls Try.prog 104 #[.pointer (some ⟨p, 0, none⟩), .slice A n c] w fun e w' => e = .returned (.int .i64 (rootF M L).1) ∧ St W w' (aRef p (rootF M L).2 :: X) := by
  intro n
  induction n using Nat.strongRecOn with
  | ind n ih =>
    intro L hL hlen M w A c hM hv h
    have HV := Lib.hid hv
    have HH := Lib.hid h
    obtain ⟨inn, hl⟩ := hv w M h
    have HLS := Lib.hid hl
    have HM := Lib.hid hM
    have HLEN := Lib.hid hlen
    have hmi : M.length ≤ 9223372036854775806 := by omega
    have HMI := Lib.hid hmi
    obtain ⟨A', c', hv', hnn, hc1, hm1, hr⟩ := id hl
    injection hv' with e1 e0 e2
    subst e1 e2
    clear hnn
    have hn63 : (n : Int) ≤ 9223372036854775807 := by unfold maxLen at hm1; omega
    have HC1 := Lib.hid hc1
    by_cases h2 : 2 ≤ n
    · have hb := splitN_bd h2
      have hbd1 := rootF_bd _ (L.take (splitN n)) rfl M hM
      have hbd2 := rootF_bd _ (L.drop (splitN n)) rfl _ hbd1.1
      have E := Lib.hid (rootF_two (M := M) (L := L) (by omega))
      rw [hL] at E
      have HSP := Lib.hid (split98 w (n : Int) hn63)
      rw [Int.toNat_natCast] at HSP
      have ih1 := ih (splitN n) hb.2 (L.take (splitN n)) (by simp; omega) (fun x hx => hlen x (List.mem_of_mem_take hx)) M w A c hM (fun w' M' h' => by
        obtain ⟨inn, hl⟩ := hv w' M' h'
        rw [← hL] at hl
        exact ⟨inn, by rw [hL] at hl; have := (show Lss inn w' (.slice A L.length c) L by rw [hL]; exact hl).to (splitN n) (by omega); exact this⟩) h
      have IH1 := Lib.hid ih1
      have ih2 := fun (w2 : World) (h2 : St W w2 (aRef p (rootF M (L.take (splitN n))).2 :: X)) => ih (n - splitN n) (by omega) (L.drop (splitN n)) (by simp; omega) (fun x hx => hlen x (List.mem_of_mem_drop hx)) (rootF M (L.take (splitN n))).2 w2 (cutA A c (splitN n)) (c - splitN n) hbd1.1 (fun w' M' h' => by
        obtain ⟨inn, hl⟩ := hv w' M' h'
        have := (show Lss inn w' (.slice A L.length c) L by rw [hL]; exact hl).from_ (splitN n) (by omega)
        rw [hL] at this
        exact ⟨inn, this⟩) h2
      have IH2 := Lib.hid ih2
      have HND := Lib.hid (fun (w3 : World) (h3 : St W w3 (aRef p (rootF (rootF M (L.take (splitN n))).2 (L.drop (splitN n))).2 :: X)) => St.node96 h3 (by have := hbd2.1; omega) (rootF M (L.take (splitN n))).1 (rootF (rootF M (L.take (splitN n))).2 (L.drop (splitN n))).1 (by omega) (by omega))
      rw [E.out]
      have hsn : (splitN n : Int) ≤ n := by omega
      have r1 : ∀ w' : World, (Instr.slice 46 (.slice A n c) none (some (.int .i64 (splitN n : Int))) none).run Try.prog w' = .ok (.slice A (splitN n) c) w' := fun w' => (Lss.runTo (by omega) (by omega) w').1
      have r2 : ∀ w' : World, (Instr.sliceAt 46 (.slice A n c) none (some (.int .i64 (splitN n : Int))) none).run Try.prog w' = .ok (.slice A (splitN n) c) w' := fun w' => (Lss.runTo (by omega) (by omega) w').2
      have r3 : ∀ w' : World, (Instr.slice 46 (.slice A n c) (some (.int .i64 (splitN n : Int))) none none).run Try.prog w' = .ok (.slice (cutA A c (splitN n)) (n - splitN n) (c - splitN n)) w' := fun w' => (Lss.runFrom (by omega) (by omega) w').1
      have r4 : ∀ w' : World, (Instr.sliceAt 46 (.slice A n c) (some (.int .i64 (splitN n : Int))) none none).run Try.prog w' = .ok (.slice (cutA A c (splitN n)) (n - splitN n) (c - splitN n)) w' := fun w' => (Lss.runFrom (by omega) (by omega) w').2
      have q0 : ((n : Int) == 0) = false := by simp; omega
      have q1 : ((n : Int) == 1) = false := by simp; omega
      generalize rootF (rootF M (L.take (splitN n))).2 (L.drop (splitN n)) = t2 at *
      generalize rootF M (L.take (splitN n)) = t1 at *
      generalize cutA A c (splitN n) = A2 at *
      generalize n - splitN n = n2 at *
      generalize c - splitN n = c2 at *
      generalize splitN n = sp at *
      clear hb hbd1 hbd2 ih1 ih2 ih hlen hM hv h hl hr hc1 hm1 h2 hL E HLS hmi e0
      go_enter Try.func104, Try.ntmps104
      go_wp2_with (first
        | (go_at_call 98; (with_reducible refine HSP.out.mono ?_); rintro e w1 ⟨rfl, rfl⟩)
        | (go_at_call 104; (with_reducible refine IH1.out.mono ?_); rintro e w2 ⟨rfl, hS⟩; have H2 := Lib.hid hS; clear hS)
        | (go_at_call 104; (with_reducible refine (IH2.out _ H2.out).mono ?_); rintro e w3 ⟨rfl, hS⟩; have H3 := Lib.hid hS; clear hS)
        | (go_at_call 96; (with_reducible refine (HND.out _ H3.out).mono ?_); rintro e w4 ⟨rfl, hS⟩; have H4 := Lib.hid hS; clear hS))
      go_ret
      exact ⟨rfl, H4.out⟩
    · match L, hL with
      | [], hL =>
        obtain rfl : n = 0 := by simpa using hL.symm
        rw [rootF_nil]
        have HS := Lib.hid (St.sum53c h hmi 2 2 rfl)
        clear ih hlen hM hv h hl hr hc1 hm1 h2 HLS hmi hn63 e0
        go_enter Try.func104, Try.ntmps104
        go_wp2_with (first
          | (go_at_call 53; (with_reducible refine HS.out.mono ?_); rintro e w2 ⟨rfl, hS⟩; have H2 := Lib.hid hS; clear hS))
        go_ret
        exact ⟨rfl, H2.out⟩
      | [x], hL =>
        obtain rfl : n = 1 := by simpa using hL.symm
        rw [rootF_one]
        obtain ⟨b, off, rfl, hb, _, hx⟩ := hr (by simp)
        obtain ⟨u, k1, k2, _⟩ := hx 0 x rfl
        have HS := Lib.hid (St.leaf94 h hmi k2 (hlen x (by simp)))
        have k1 : w.cell? ⟨b, off, none⟩ = some u := by simpa using k1
        clear ih hlen hM hv h hl hr hc1 hm1 h2 HLS hmi hx k2 hn63 e0
        go_enter Try.func104, Try.ntmps104
        go_wp2_with (first
          | (go_at_call 94; (with_reducible refine HS.out.mono ?_); rintro e w2 ⟨rfl, hS⟩; have H2 := Lib.hid hS; clear hS))
        go_ret
        exact ⟨rfl, H2.out⟩
      | y :: z :: r, hL => exact absurd (by simp at hL; omega) h2
end
end Go.Proofs.Ythgpkbhilkdckaa

/- Slices of digests, read; to which digest a proof comes: the reference's comes, and merkle's closure. -/
namespace Go.Proofs.Ythgpkbhilkdckaa
open Go.RowKit Go.Deep
set_option linter.unusedVariables false

/-- a slice of int64s, read -/
def Is (w : World) (v : Value) (xs : List Int) : Prop := ∃ (A : Option Addr) (cap : Nat), v = .slice A xs.length cap ∧ xs.length ≤ cap ∧ cap ≤ maxLen ∧ (0 < xs.length → ∃ b off, A = some ⟨b, off, none⟩ ∧ b < w.heap.size ∧
  ∀ i x, xs[i]? = some x → x ≤ 9223372036854775807 ∧ w.cell? ⟨b, off + i, none⟩ = some (.int .i64 x))
theorem Is.later {w w' : World} {v : Value} {xs : List Int} (h : Is w v xs) (hb : B w w') : Is w' v xs := by
  obtain ⟨A, cap, rfl, h1, h2, hr⟩ := h
  refine ⟨A, cap, rfl, h1, h2, fun h0 => ?_⟩
  obtain ⟨b, off, rfl, hb1, hc⟩ := hr h0
  exact ⟨b, off, rfl, Nat.lt_of_lt_of_le hb1 hb.size, fun i x hx => ⟨(hc i x hx).1, hb.cell (hc i x hx).2⟩⟩
theorem Is.to {w : World} {A : Option Addr} {n c : Nat} {xs : List Int} (h : Is w (.slice A n c) xs) (k : Nat) (hk : k ≤ xs.length) : Is w (.slice A k c) (xs.take k) := by
  obtain ⟨A', c', hv, h1, h2, hr⟩ := h
  injection hv with e1 _ e2
  subst e1 e2
  refine ⟨A, c, by rw [List.length_take, Nat.min_eq_left hk], by simp; omega, h2, fun h0 => ?_⟩
  obtain ⟨b, off, hA, hb1, hc⟩ := hr (by simp at h0; omega)
  refine ⟨b, off, hA, hb1, fun i x hx => hc i x ?_⟩
  rw [List.getElem?_take] at hx
  split at hx
  · exact hx
  · cases hx
theorem size23 (w : World) : (sizeOf 23).run Try.prog w = .ok 1 w := by kernel_rfl
theorem elem124 : Try.prog.elem 124 = 23 := by kernel_rfl
theorem Is.runTo {A : Option Addr} {n c k : Nat} (hk : k ≤ n) (hn : n ≤ c) (w : World) : (Instr.slice 124 (.slice A n c) none (some (.int .i64 (k : Int))) none).run Try.prog w = .ok (.slice A k c) w ∧ (Instr.sliceAt 124 (.slice A n c) none (some (.int .i64 (k : Int))) none).run Try.prog w = .ok (.slice A k c) w := by
  have h1 : (Instr.slice 124 (.slice A n c) none (some (.int .i64 (k : Int))) none).run Try.prog w = .ok (.slice A k c) w := by
    rw [run_slice_h (P := Try.prog) (w := w) (t := 124) (a := A) (len := n) (cap := c) (by rw [elem124]; exact Try.underlying124) .i64 (k : Int) (by omega) (by omega), elem124, size23]
    simp [Result.andThen, sliced, Addr.add]
  exact ⟨h1, by rw [run_sliceAt_slice (P := Try.prog) (w := w) (t := 124) (h := by rw [elem124]; exact Try.underlying124)]; exact h1⟩

def lk2 (M : List (List UInt8)) (b : List UInt8) : Int × Bool := (lkN M b, lkB M b)
/-- the digest to which a proof comes -/
def comesF (M : List (List UInt8)) (b : List UInt8) (i n : Nat) (xs : List Int) : Int × Bool :=
  if h : 2 ≤ n then
    if i < splitN n then
      let r := comesF M b i (splitN n) (xs.take (xs.length - 1))
      if r.2 then lk2 M (ndB r.1 (xs.getD (xs.length - 1) 0)) else (0, false)
    else
      let r := comesF M b (i - splitN n) (n - splitN n) (xs.take (xs.length - 1))
      if r.2 then lk2 M (ndB (xs.getD (xs.length - 1) 0) r.1) else (0, false)
  else lk2 M ([0] ++ b)
termination_by n
decreasing_by
  · exact (splitN_bd h).2
  · have := splitN_bd h; omega
theorem comesF_one {M : List (List UInt8)} {b : List UInt8} {i n : Nat} {xs : List Int} (h : ¬ 2 ≤ n) : comesF M b i n xs = lk2 M ([0] ++ b) := by rw [comesF, dif_neg h]
theorem comesF_lt {M : List (List UInt8)} {b : List UInt8} {i n : Nat} {xs : List Int} (h : 2 ≤ n) (hi : i < splitN n) : comesF M b i n xs = (if (comesF M b i (splitN n) (xs.take (xs.length - 1))).2 then lk2 M (ndB (comesF M b i (splitN n) (xs.take (xs.length - 1))).1 (xs.getD (xs.length - 1) 0)) else (0, false)) := by
  conv => lhs; rw [comesF]
  rw [dif_pos h, if_pos hi]
theorem comesF_ge {M : List (List UInt8)} {b : List UInt8} {i n : Nat} {xs : List Int} (h : 2 ≤ n) (hi : ¬ i < splitN n) : comesF M b i n xs = (if (comesF M b (i - splitN n) (n - splitN n) (xs.take (xs.length - 1))).2 then lk2 M (ndB (xs.getD (xs.length - 1) 0) (comesF M b (i - splitN n) (n - splitN n) (xs.take (xs.length - 1))).1) else (0, false)) := by
  conv => lhs; rw [comesF]
  rw [dif_pos h, if_neg hi]
theorem lkN_bd {M : List (List UInt8)} (h : M.length ≤ 1048576) (b : List UInt8) : lkN M b ≤ 9223372036854775807 := by
  unfold lkN
  cases hl : look b M 0 with
  | none => simp
  | some d => have := look_some hl; simp; omega
theorem comesF_bd {M : List (List UInt8)} (hM : M.length ≤ 1048576) (b : List UInt8) (i n : Nat) (xs : List Int) : (comesF M b i n xs).1 ≤ 9223372036854775807 := by
  rw [comesF]
  split
  · split
    · simp only; split
      · exact lkN_bd hM _
      · simp
    · simp only; split
      · exact lkN_bd hM _
      · simp
  · exact lkN_bd hM _
def ComesPost (w : World) (r : Int × Bool) (e : Ending) (w' : World) : Prop := e = .returned (.tuple #[.int .i64 r.1, .bool r.2]) ∧ B w w'
section
variable {own : Nat → Prop} {p : Nat} {M : List (List UInt8)} {b : List UInt8} {vb : Value}
set_option maxRecDepth 20000 in
set_option maxHeartbeats 4000000 in
theorem comes129 : ∀ (n i : Nat) (xs : List Int) (w : World) (v : Value), i < n → n ≤ 9223372036854775807 → xs.length = lenW i n → M.length ≤ 1048576 → b.length + 1 ≤ big → RefT own w p M → Bs w vb b → Is w v xs →
    Calls Try.prog 129 #[.pointer (some ⟨p, 0, none⟩), vb, .int .i64 (i : Int), .int .i64 (n : Int), v] w (ComesPost w (comesF M b i n xs)) := by
  intro n
  induction n using Nat.strongRecOn with
  | ind n ih =>
    intro i xs w v hin hn63 hx hM hbl hT hb hI
    have HT := Lib.hid hT
    have HB := Lib.hid hb
    have HML := Lib.hid (show M.length ≤ 9223372036854775806 by omega)
    by_cases h2 : 2 ≤ n
    · have hbd := splitN_bd h2
      have HBD := Lib.hid hbd
      obtain ⟨A, c, rfl, hc1, hc2, hr⟩ := id hI
      have hxp : 0 < xs.length := by
        rw [hx]
        by_cases hi : i < splitN n
        · rw [lenW_lt h2 hi]; omega
        · rw [lenW_ge h2 hi]; omega
      obtain ⟨g, off, rfl, hg, hcell⟩ := hr hxp
      obtain ⟨last, hlast⟩ : ∃ y, xs[xs.length - 1]? = some y := ⟨_, List.getElem?_eq_getElem (by omega)⟩
      obtain ⟨hl63, hk⟩ := hcell _ last hlast
      have hgd : xs.getD (xs.length - 1) 0 = last := by rw [List.getD_eq_getElem?_getD, hlast]; rfl
      have hI2 := hI.to (xs.length - 1) (by omega)
      have HSP := Lib.hid (split98 w (n : Int) (by omega))
      rw [Int.toNat_natCast] at HSP
      have HL63 := Lib.hid hl63
      have e1 : ((xs.length - 1 : Nat) : Int) = (xs.length : Int) - 1 := by omega
      have r1 : ∀ w' : World, (Instr.slice 124 (.slice (some ⟨g, off, none⟩) xs.length c) none (some (.int .i64 ((xs.length : Int) - 1))) none).run Try.prog w' = .ok (.slice (some ⟨g, off, none⟩) (xs.length - 1) c) w' := fun w' => by rw [← e1]; exact (Is.runTo (by omega) (by omega) w').1
      have r2 : ∀ w' : World, (Instr.sliceAt 124 (.slice (some ⟨g, off, none⟩) xs.length c) none (some (.int .i64 ((xs.length : Int) - 1))) none).run Try.prog w' = .ok (.slice (some ⟨g, off, none⟩) (xs.length - 1) c) w' := fun w' => by rw [← e1]; exact (Is.runTo (by omega) (by omega) w').2
      have q0 : ((n : Int) == 1) = false := by simp; omega
      have hxl : (1 : Int) ≤ xs.length := by omega
      have hxm : (xs.length : Int) ≤ 9223372036854775807 := by unfold maxLen at hc2; omega
      have hni : (n : Int) ≤ 9223372036854775807 := by omega
      have ht : ((xs.length : Int) - 1).toNat = xs.length - 1 := by omega
      by_cases hi : i < splitN n
      · have E := Lib.hid (comesF_lt (M := M) (b := b) (xs := xs) h2 hi)
        rw [hgd] at E
        have hlw : (xs.take (xs.length - 1)).length = lenW i (splitN n) := by rw [List.length_take, hx, lenW_lt h2 hi]; omega
        have IH := Lib.hid (ih (splitN n) hbd.2 i (xs.take (xs.length - 1)) w (.slice (some ⟨g, off, none⟩) (xs.length - 1) c) hi (by omega) hlw hM hbl hT hb hI2)
        have HCB := Lib.hid (comesF_bd hM b i (splitN n) (xs.take (xs.length - 1)))
        have hii : (i : Int) < (splitN n : Int) := by omega
        rw [E.out]
        generalize comesF M b i (splitN n) (xs.take (xs.length - 1)) = r at *
        obtain ⟨d, ok⟩ := r
        generalize splitN n = sp at *
        have K := Lib.hid hk
        clear hr hcell hI hI2 hgd hlast hbd hc1 hc2 h2 ih hx hT hb hin hn63 hM hbl hlw hi hl63 e1 E
        cases ok
        · go_enter Try.func129, Try.ntmps129
          go_wp2_with (first
            | (go_at_call 98; (with_reducible refine HSP.out.mono ?_); rintro e w1 ⟨rfl, rfl⟩)
            | (go_at_call 129; (with_reducible refine IH.out.mono ?_); rintro e w2 ⟨rfl, hb2⟩))
          go_ret2
          exact ⟨rfl, hb2⟩
        · go_enter Try.func129, Try.ntmps129
          go_wp2_with (first
            | (go_at_call 98; (with_reducible refine HSP.out.mono ?_); rintro e w1 ⟨rfl, rfl⟩)
            | (go_at_call 129; (with_reducible refine IH.out.mono ?_); rintro e w2 ⟨rfl, hb2⟩)
            | (go_at_call 126; (with_reducible refine (node126 _ d last HCB.out HL63.out).mono ?_); rintro e w3 ⟨v3, rfl, r3, hb3⟩; have V3 := Lib.hid (Bs.of_own r3 (by have := ndB_len HCB.out HL63.out; unfold big; omega)); clear r3)
            | (go_at_call 67; (with_reducible refine (rlook67 ((HT.out.later hb2).later hb3) HML.out V3.out).mono ?_); rintro e w4 ⟨rfl, rfl⟩))
          go_ret2
          exact ⟨rfl, hb2.trans hb3⟩
      · have E := Lib.hid (comesF_ge (M := M) (b := b) (xs := xs) h2 hi)
        rw [hgd] at E
        have hlw : (xs.take (xs.length - 1)).length = lenW (i - splitN n) (n - splitN n) := by rw [List.length_take, hx, lenW_ge h2 hi]; omega
        have ih1 := (ih (n - splitN n) (by omega) (i - splitN n) (xs.take (xs.length - 1)) w (.slice (some ⟨g, off, none⟩) (xs.length - 1) c) (by omega) (by omega) hlw hM hbl hT hb hI2)
        rw [show ((i - splitN n : Nat) : Int) = (i : Int) - (splitN n : Int) by omega, show ((n - splitN n : Nat) : Int) = (n : Int) - (splitN n : Int) by omega] at ih1
        have IH := Lib.hid ih1
        have hsi : (splitN n : Int) ≤ i := by omega
        have hinn : (i : Int) < n := by omega
        have HCB := Lib.hid (comesF_bd hM b (i - splitN n) (n - splitN n) (xs.take (xs.length - 1)))
        have hii : ¬ (i : Int) < (splitN n : Int) := by omega
        rw [E.out]
        generalize comesF M b (i - splitN n) (n - splitN n) (xs.take (xs.length - 1)) = r at *
        obtain ⟨d, ok⟩ := r
        generalize splitN n = sp at *
        have K := Lib.hid hk
        clear ih1 hr hcell hI hI2 hgd hlast hbd hc1 hc2 h2 ih hx hT hb hin hn63 hM hbl hlw hi hl63 e1 E
        cases ok
        · go_enter Try.func129, Try.ntmps129
          go_wp2_with (first
            | (go_at_call 98; (with_reducible refine HSP.out.mono ?_); rintro e w1 ⟨rfl, rfl⟩)
            | (go_at_call 129; (with_reducible refine IH.out.mono ?_); rintro e w2 ⟨rfl, hb2⟩))
          go_ret2
          exact ⟨rfl, hb2⟩
        · go_enter Try.func129, Try.ntmps129
          go_wp2_with (first
            | (go_at_call 98; (with_reducible refine HSP.out.mono ?_); rintro e w1 ⟨rfl, rfl⟩)
            | (go_at_call 129; (with_reducible refine IH.out.mono ?_); rintro e w2 ⟨rfl, hb2⟩)
            | (go_at_call 126; (with_reducible refine (node126 _ last d HL63.out HCB.out).mono ?_); rintro e w3 ⟨v3, rfl, r3, hb3⟩; have V3 := Lib.hid (Bs.of_own r3 (by have := ndB_len HL63.out HCB.out; unfold big; omega)); clear r3)
            | (go_at_call 67; (with_reducible refine (rlook67 ((HT.out.later hb2).later hb3) HML.out V3.out).mono ?_); rintro e w4 ⟨rfl, rfl⟩))
          go_ret2
          exact ⟨rfl, hb2.trans hb3⟩
    · obtain rfl : n = 1 := by omega
      rw [comesF_one h2]
      have HL := Lib.hid (leaf124 hb hbl)
      have HBL := Lib.hid (show ([0] ++ b).length ≤ big by simp; omega)
      clear ih hT hb hI hx hM hbl h2 hin hn63
      go_enter Try.func129, Try.ntmps129
      go_wp2_with (first
        | (go_at_call 124; (with_reducible refine HL.out.mono ?_); rintro e w1 ⟨v1, rfl, r1, hb1⟩; have V1 := Lib.hid (Bs.of_own r1 HBL.out); clear r1)
        | (go_at_call 67; (with_reducible refine (rlook67 (HT.out.later hb1) HML.out V1.out).mono ?_); rintro e w2 ⟨rfl, rfl⟩))
      go_ret2
      exact ⟨rfl, hb1⟩
end
end Go.Proofs.Ythgpkbhilkdckaa

/- The closure of merkle.Verify: to which digest a proof comes. -/
namespace Go.Proofs.Ythgpkbhilkdckaa
open Go.RowKit Go.Deep
set_option linter.unusedVariables false

theorem i64_id {x : Int} (h : 0 ≤ x ∧ x ≤ 9223372036854775807) : IntKind.i64.wrap x = x := by
  simp [IntKind.wrap, IntKind.signed, IntKind.bits]; omega
/-- what the closure has caught -/
def Caps (w : World) (p : Nat) (vb : Value) (bt bb bf : Nat) : Prop := w.cell? ⟨bt, 0, none⟩ = some (.pointer (some ⟨p, 0, none⟩)) ∧ w.cell? ⟨bb, 0, none⟩ = some vb ∧
  w.cell? ⟨bf, 0, none⟩ = some (.func (.func 128) #[] #[.pointer (some ⟨bt, 0, none⟩), .pointer (some ⟨bb, 0, none⟩), .pointer (some ⟨bf, 0, none⟩)])
theorem Caps.later {w w' : World} {p : Nat} {vb : Value} {bt bb bf : Nat} (h : Caps w p vb bt bb bf) (hb : B w w') : Caps w' p vb bt bb bf := ⟨hb.cell h.1, hb.cell h.2.1, hb.cell h.2.2⟩
section
variable {own : Nat → Prop} {p : Nat} {M : List (List UInt8)} {b : List UInt8} {vb : Value}
set_option maxRecDepth 20000 in
set_option maxHeartbeats 4000000 in
theorem up128 {bt bb bf : Nat} : ∀ (n i : Nat) (xs : List Int) (w : World) (v : Value), i < n → n ≤ 9223372036854775807 → xs.length = lenW i n → M.length ≤ 1048576 → b.length + 1 ≤ big → TableAt own w p M → Bs w vb b → Is w v xs → Caps w p vb bt bb bf →
    Calls Try.prog 128 #[.int .i64 (i : Int), .int .i64 (n : Int), v, .pointer (some ⟨bt, 0, none⟩), .pointer (some ⟨bb, 0, none⟩), .pointer (some ⟨bf, 0, none⟩)] w (ComesPost w (comesF M b i n xs)) := by
  intro n
  induction n using Nat.strongRecOn with
  | ind n ih =>
    intro i xs w v hin hn63 hx hM hbl hT hb hI hcap
    have lt1 : ∀ w', B w w' → w'.cell? ⟨bt, 0, none⟩ = some (.pointer (some ⟨p, 0, none⟩)) := fun w' h => h.cell hcap.1
    have lt2 : ∀ w', B w w' → w'.cell? ⟨bb, 0, none⟩ = some vb := fun w' h => h.cell hcap.2.1
    have lt3 : ∀ w', B w w' → w'.cell? ⟨bf, 0, none⟩ = some (.func (.func 128) #[] #[.pointer (some ⟨bt, 0, none⟩), .pointer (some ⟨bb, 0, none⟩), .pointer (some ⟨bf, 0, none⟩)]) := fun w' h => h.cell hcap.2.2
    have HT := Lib.hid hT
    have HB := Lib.hid hb
    have HML := Lib.hid (show M.length ≤ 9223372036854775806 by omega)
    by_cases h2 : 2 ≤ n
    · have hbd := splitN_bd h2
      have HBD := Lib.hid hbd
      obtain ⟨A, c, rfl, hc1, hc2, hr⟩ := id hI
      have hxp : 0 < xs.length := by
        rw [hx]
        by_cases hi : i < splitN n
        · rw [lenW_lt h2 hi]; omega
        · rw [lenW_ge h2 hi]; omega
      obtain ⟨g, off, rfl, hg, hcell⟩ := hr hxp
      obtain ⟨last, hlast⟩ : ∃ y, xs[xs.length - 1]? = some y := ⟨_, List.getElem?_eq_getElem (by omega)⟩
      obtain ⟨hl63, hk⟩ := hcell _ last hlast
      have hgd : xs.getD (xs.length - 1) 0 = last := by rw [List.getD_eq_getElem?_getD, hlast]; rfl
      have hI2 := hI.to (xs.length - 1) (by omega)
      have HSP := Lib.hid (split97 w (n : Int) (by omega))
      rw [Int.toNat_natCast] at HSP
      have HL63 := Lib.hid hl63
      have e1 : ((xs.length - 1 : Nat) : Int) = (xs.length : Int) - 1 := by omega
      have r1 : ∀ w' : World, (Instr.slice 124 (.slice (some ⟨g, off, none⟩) xs.length c) none (some (.int .i64 ((xs.length : Int) - 1))) none).run Try.prog w' = .ok (.slice (some ⟨g, off, none⟩) (xs.length - 1) c) w' := fun w' => by rw [← e1]; exact (Is.runTo (by omega) (by omega) w').1
      have r2 : ∀ w' : World, (Instr.sliceAt 124 (.slice (some ⟨g, off, none⟩) xs.length c) none (some (.int .i64 ((xs.length : Int) - 1))) none).run Try.prog w' = .ok (.slice (some ⟨g, off, none⟩) (xs.length - 1) c) w' := fun w' => by rw [← e1]; exact (Is.runTo (by omega) (by omega) w').2
      have q0 : ((n : Int) == 1) = false := by simp; omega
      have hxl : (1 : Int) ≤ xs.length := by omega
      have hxm : (xs.length : Int) ≤ 9223372036854775807 := by unfold maxLen at hc2; omega
      have hni : (n : Int) ≤ 9223372036854775807 := by omega
      have ht : ((xs.length : Int) - 1).toNat = xs.length - 1 := by omega
      have hx0 : (0 : Int) ≤ (xs.length : Int) - 1 := by omega
      have hx1 : (xs.length : Int) - 1 < (xs.length : Int) := by omega
      by_cases hi : i < splitN n
      · have E := Lib.hid (comesF_lt (M := M) (b := b) (xs := xs) h2 hi)
        rw [hgd] at E
        have hlw : (xs.take (xs.length - 1)).length = lenW i (splitN n) := by rw [List.length_take, hx, lenW_lt h2 hi]; omega
        have IH := Lib.hid (fun (w' : World) (hw : B w w') => ih (splitN n) hbd.2 i (xs.take (xs.length - 1)) w' (.slice (some ⟨g, off, none⟩) (xs.length - 1) c) hi (by omega) hlw hM hbl (hT.later hw) (hb.later hw) (hI2.later hw) (hcap.later hw))
        have HCB := Lib.hid (comesF_bd hM b i (splitN n) (xs.take (xs.length - 1)))
        have hii : (i : Int) < (splitN n : Int) := by omega
        rw [E.out]
        generalize comesF M b i (splitN n) (xs.take (xs.length - 1)) = r at *
        obtain ⟨d, ok⟩ := r
        generalize splitN n = sp at *
        have K := Lib.hid hk
        clear hr hcell hI hI2 hgd hlast hbd hc1 hc2 h2 ih hx hT hb hin hn63 hM hbl hlw hi hl63 e1 E
        have lt4 : ∀ w', B w w' → w'.cell? ⟨g, off + (xs.length - 1), none⟩ = some (.int .i64 last) := fun w' h => h.cell K.out
        clear hk hcap
        cases ok
        all_goals
          go_enter Try.func128, Try.ntmps128
          go_wp2_with (first
            | (go_at_call 97; (with_reducible refine HSP.out.mono ?_); rintro e w1 ⟨rfl, rfl⟩))
          go_region_held3 (fun w' => B w w') (first | assumption | exact (Below.refl _ _).drew | exact B.trans (by assumption) hb2 | exact B.trans (by assumption) hb3 | exact B.trans (by assumption) (Below.refl _ _).drew) (first | (go_at_call 128; (with_reducible refine (IH.out _ (by assumption)).mono ?_); rintro e w2 ⟨rfl, hb2⟩))
          have hBx := ‹B w _›
        · go_wp2_with fail
          go_ret2
          exact ⟨rfl, hBx⟩
        · go_wp2_with fail
          go_region_held3 (fun w' => B w w') (first | assumption | exact (Below.refl _ _).drew | exact B.trans (by assumption) hb2 | exact B.trans (by assumption) hb3 | exact B.trans (by assumption) (Below.refl _ _).drew) (first | (go_at_call 125; (with_reducible refine (node125 _ d last HCB.out HL63.out).mono ?_); rintro e w3 ⟨v3, rfl, r3, hb3⟩; have V3 := Lib.hid (Bs.of_own r3 (by have := ndB_len HCB.out HL63.out; unfold big; omega)); clear r3) | (go_at_call 66; (with_reducible refine (look66 (HT.out.later (by assumption)) V3.out).mono ?_); rintro e w4 ⟨rfl, hb2⟩))
          have hBy := ‹B w _›
          go_wp2_with fail
          go_ret2
          exact ⟨rfl, hBy⟩
      · have E := Lib.hid (comesF_ge (M := M) (b := b) (xs := xs) h2 hi)
        rw [hgd] at E
        have hlw : (xs.take (xs.length - 1)).length = lenW (i - splitN n) (n - splitN n) := by rw [List.length_take, hx, lenW_ge h2 hi]; omega
        have ih1 := (fun (w' : World) (hw : B w w') => ih (n - splitN n) (by omega) (i - splitN n) (xs.take (xs.length - 1)) w' (.slice (some ⟨g, off, none⟩) (xs.length - 1) c) (by omega) (by omega) hlw hM hbl (hT.later hw) (hb.later hw) (hI2.later hw) (hcap.later hw))
        rw [show ((i - splitN n : Nat) : Int) = (i : Int) - (splitN n : Int) by omega, show ((n - splitN n : Nat) : Int) = (n : Int) - (splitN n : Int) by omega] at ih1
        have IH := Lib.hid ih1
        have hsi : (splitN n : Int) ≤ i := by omega
        have hw1 : IntKind.i64.wrap ((i : Int) - (splitN n : Int)) = (i : Int) - (splitN n : Int) := i64_id (by omega)
        have hw2 : IntKind.i64.wrap ((n : Int) - (splitN n : Int)) = (n : Int) - (splitN n : Int) := i64_id (by omega)
        have hinn : (i : Int) < n := by omega
        have HCB := Lib.hid (comesF_bd hM b (i - splitN n) (n - splitN n) (xs.take (xs.length - 1)))
        have hii : ¬ (i : Int) < (splitN n : Int) := by omega
        rw [E.out]
        generalize comesF M b (i - splitN n) (n - splitN n) (xs.take (xs.length - 1)) = r at *
        obtain ⟨d, ok⟩ := r
        generalize splitN n = sp at *
        have K := Lib.hid hk
        clear ih1 hr hcell hI hI2 hgd hlast hbd hc1 hc2 h2 ih hx hT hb hin hn63 hM hbl hlw hi hl63 e1 E
        have lt4 : ∀ w', B w w' → w'.cell? ⟨g, off + (xs.length - 1), none⟩ = some (.int .i64 last) := fun w' h => h.cell K.out
        clear hk hcap
        cases ok
        all_goals
          go_enter Try.func128, Try.ntmps128
          go_wp2_with (first
            | (go_at_call 97; (with_reducible refine HSP.out.mono ?_); rintro e w1 ⟨rfl, rfl⟩))
          go_region_held3 (fun w' => B w w') (first | assumption | exact (Below.refl _ _).drew | exact B.trans (by assumption) hb2 | exact B.trans (by assumption) hb3 | exact B.trans (by assumption) (Below.refl _ _).drew) (first | (go_at_call 128; (with_reducible refine (IH.out _ (by assumption)).mono ?_); rintro e w2 ⟨rfl, hb2⟩))
          have hBx := ‹B w _›
        · go_wp2_with fail
          go_ret2
          exact ⟨rfl, hBx⟩
        · go_wp2_with fail
          go_region_held3 (fun w' => B w w') (first | assumption | exact (Below.refl _ _).drew | exact B.trans (by assumption) hb2 | exact B.trans (by assumption) hb3 | exact B.trans (by assumption) (Below.refl _ _).drew) (first | (go_at_call 125; (with_reducible refine (node125 _ last d HL63.out HCB.out).mono ?_); rintro e w3 ⟨v3, rfl, r3, hb3⟩; have V3 := Lib.hid (Bs.of_own r3 (by have := ndB_len HL63.out HCB.out; unfold big; omega)); clear r3) | (go_at_call 66; (with_reducible refine (look66 (HT.out.later (by assumption)) V3.out).mono ?_); rintro e w4 ⟨rfl, hb2⟩))
          have hBy := ‹B w _›
          go_wp2_with fail
          go_ret2
          exact ⟨rfl, hBy⟩
    · obtain rfl : n = 1 := by omega
      rw [comesF_one h2]
      have HL := Lib.hid (fun (w' : World) (hw : B w w') => leaf123 (hb.later hw) hbl)
      have HBL := Lib.hid (show ([0] ++ b).length ≤ big by simp; omega)
      clear ih hT hb hI hx hM hbl h2 hin hn63 hcap
      go_enter Try.func128, Try.ntmps128
      go_wp2_with fail
      go_region_held3 (fun w' => B w w') (first | assumption | exact (Below.refl _ _).drew | exact B.trans (by assumption) hb2 | exact B.trans (by assumption) hb3 | exact B.trans (by assumption) (Below.refl _ _).drew) (first
        | (go_at_call 123; (with_reducible refine (HL.out _ (by assumption)).mono ?_); rintro e w3 ⟨v3, rfl, r3, hb3⟩; have V3 := Lib.hid (Bs.of_own r3 HBL.out); clear r3)
        | (go_at_call 66; (with_reducible refine (look66 (HT.out.later (by assumption)) V3.out).mono ?_); rintro e w4 ⟨rfl, hb2⟩))
      have hBx := ‹B w _›
      go_wp2_with fail
      go_ret2
      exact ⟨rfl, hBx⟩
end
end Go.Proofs.Ythgpkbhilkdckaa

/- Verify of merkle and of its reference. -/
namespace Go.Proofs.Ythgpkbhilkdckaa
open Go.RowKit Go.Deep
set_option linter.unusedVariables false

/-- is the proof taken? -/
def verF (M : List (List UInt8)) (rt : Int) (b : List UInt8) (i n : Int) (xs : List Int) : Bool :=
  if i < 0 ∨ n ≤ i ∨ xs.length ≠ lenF i n then false else (comesF M b i.toNat n.toNat xs).2 && ((comesF M b i.toNat n.toNat xs).1 == rt)
section
variable {own : Nat → Prop} {w : World} {p : Nat} {M : List (List UInt8)} {b : List UInt8} {vb v : Value} {xs : List Int}

set_option maxRecDepth 20000 in
set_option maxHeartbeats 4000000 in
theorem verify105 (hT : RefT own w p M) (hM : M.length ≤ 1048576) (hb : Bs w vb b) (hbl : b.length + 1 ≤ big) (hI : Is w v xs) (rt i n : Int) (hi63 : i ≤ 9223372036854775807) (hn63 : n ≤ 9223372036854775807) :
    Calls Try.prog 105 #[.pointer (some ⟨p, 0, none⟩), .int .i64 rt, vb, .int .i64 i, .int .i64 n, v] w fun e w' => e = .returned (.bool (verF M rt b i n xs)) ∧ B w w' := by
  obtain ⟨Ab, cb, hvb⟩ := hb.rd.slice
  obtain ⟨nb, hnb⟩ : ∃ k, b.length = k := ⟨_, rfl⟩
  rw [hnb] at hvb
  subst hvb
  obtain ⟨A, c, hv, hc1, hc2, hr⟩ := id hI
  have HLN := Lib.hid (length100 w i n hi63 hn63)
  have HB0 := Lib.hid (show B w w from Below.refl _ _)
  by_cases h1 : i < 0
  · have E := Lib.hid (show false = verF M rt b i n xs by unfold verF; rw [if_pos (.inl h1)])
    subst hv
    clear hT hM hb hbl hI hi63 hn63 hc1 hc2 hr hnb
    go_enter Try.func105, Try.ntmps105
    go_wp2_with fail
    go_ret
    exact ⟨retB E.out, HB0.out⟩
  by_cases h2 : n ≤ i
  · have E := Lib.hid (show false = verF M rt b i n xs by unfold verF; rw [if_pos (.inr (.inl h2))])
    subst hv
    clear hT hM hb hbl hI hi63 hn63 hc1 hc2 hr hnb
    go_enter Try.func105, Try.ntmps105
    go_wp2_with fail
    go_ret
    exact ⟨retB E.out, HB0.out⟩
  by_cases hlen : xs.length = lenF i n
  · obtain ⟨j, hj⟩ := Int.eq_ofNat_of_zero_le (show 0 ≤ i by omega)
    obtain ⟨m, hm⟩ := Int.eq_ofNat_of_zero_le (show 0 ≤ n by omega)
    subst hj hm
    have hlf : lenF j m = lenW j m := by unfold lenF; rw [if_neg (by omega)]; simp
    have E := Lib.hid (show ((comesF M b j m xs).2 && ((comesF M b j m xs).1 == rt)) = verF M rt b j m xs by unfold verF; rw [if_neg (by rintro (h | h | h) <;> first | omega | exact h hlen)]; simp)
    subst hv
    have HU := Lib.hid (comes129 m j xs w _ (by omega) (by omega) (by rw [hlen, hlf]) hM hbl hT hb hI)
    have q1 : ((xs.length : Int) != (lenF j m : Int)) = false := by rw [hlen]; simp
    have h1' : ¬ (j : Int) < 0 := h1
    have h2' : ¬ (m : Int) ≤ j := h2
    rw [← E.out]
    clear hT hM hb hbl hI hi63 hn63 hc1 hc2 hr hnb hlen hlf h1 h2  E
    generalize comesF M b j m xs = r at *
    obtain ⟨d, ok⟩ := r
    generalize lenF j m = lf at *
    cases ok
    all_goals
      go_enter Try.func105, Try.ntmps105
      go_wp2_with (first
        | (go_at_call 100; (with_reducible refine HLN.out.mono ?_); rintro e w1 ⟨rfl, rfl⟩)
        | (go_at_call 129; (with_reducible refine HU.out.mono ?_); rintro e w2 ⟨rfl, hb2⟩))
      go_ret
      exact ⟨by simp, hb2⟩
  · have E := Lib.hid (show false = verF M rt b i n xs by unfold verF; rw [if_pos (.inr (.inr hlen))])
    subst hv
    have q1 : ((xs.length : Int) != (lenF i n : Int)) = true := by simp; omega
    generalize lenF i n = lf at *
    clear hT hM hb hbl hI hi63 hn63 hc1 hc2 hr hnb hlen
    go_enter Try.func105, Try.ntmps105
    go_wp2_with (first
      | (go_at_call 100; (with_reducible refine HLN.out.mono ?_); rintro e w1 ⟨rfl, rfl⟩))
    go_ret
    exact ⟨retB E.out, HB0.out⟩

set_option maxRecDepth 20000 in
set_option maxHeartbeats 4000000 in
theorem verify103 (hT : TableAt own w p M) (hM : M.length ≤ 1048576) (hb : Bs w vb b) (hbl : b.length + 1 ≤ big) (hI : Is w v xs) (rt i n : Int) (hi63 : i ≤ 9223372036854775807) (hn63 : n ≤ 9223372036854775807) :
    Calls Try.prog 103 #[.pointer (some ⟨p, 0, none⟩), .int .i64 rt, vb, .int .i64 i, .int .i64 n, v] w fun e w' => e = .returned (.bool (verF M rt b i n xs)) ∧ B w w' := by
  obtain ⟨Ab, cb, hvb⟩ := hb.rd.slice
  obtain ⟨nb, hnb⟩ : ∃ k, b.length = k := ⟨_, rfl⟩
  rw [hnb] at hvb
  subst hvb
  obtain ⟨A, c, hv, hc1, hc2, hr⟩ := id hI
  have HLN := Lib.hid (length99 ((w.alloc (.cells #[.pointer (some ⟨p, 0, none⟩)] 48)).alloc (.cells #[.slice Ab nb cb] 47)) i n hi63 hn63)
  have HB0 := Lib.hid (show B w ((w.alloc (.cells #[.pointer (some ⟨p, 0, none⟩)] 48)).alloc (.cells #[.slice Ab nb cb] 47)) from (B.alloc' _ _).trans (B.alloc' _ _))
  by_cases h1 : i < 0
  · have E := Lib.hid (show false = verF M rt b i n xs by unfold verF; rw [if_pos (.inl h1)])
    subst hv
    clear hT hM hb hbl hI hi63 hn63 hc1 hc2 hr hnb
    go_enter Try.func103, Try.ntmps103
    go_wp2_with fail
    go_ret
    exact ⟨retB E.out, HB0.out⟩
  by_cases h2 : n ≤ i
  · have E := Lib.hid (show false = verF M rt b i n xs by unfold verF; rw [if_pos (.inr (.inl h2))])
    subst hv
    clear hT hM hb hbl hI hi63 hn63 hc1 hc2 hr hnb
    go_enter Try.func103, Try.ntmps103
    go_wp2_with fail
    go_ret
    exact ⟨retB E.out, HB0.out⟩
  by_cases hlen : xs.length = lenF i n
  · obtain ⟨j, hj⟩ := Int.eq_ofNat_of_zero_le (show 0 ≤ i by omega)
    obtain ⟨m, hm⟩ := Int.eq_ofNat_of_zero_le (show 0 ≤ n by omega)
    subst hj hm
    have hlf : lenF j m = lenW j m := by unfold lenF; rw [if_neg (by omega)]; simp
    have E := Lib.hid (show ((comesF M b j m xs).2 && ((comesF M b j m xs).1 == rt)) = verF M rt b j m xs by unfold verF; rw [if_neg (by rintro (h | h | h) <;> first | omega | exact h hlen)]; simp)
    subst hv
    have hF : Caps (((w.alloc (.cells #[.pointer (some ⟨p, 0, none⟩)] 48)).alloc (.cells #[.slice Ab nb cb] 47)).alloc (.cells #[.func (.func 128) #[] #[.pointer (some ⟨w.heap.size, 0, none⟩), .pointer (some ⟨w.heap.size + 1, 0, none⟩), .pointer (some ⟨w.heap.size + 1 + 1, 0, none⟩)]] 146)) p (.slice Ab nb cb) w.heap.size (w.heap.size + 1) (w.heap.size + 1 + 1) := ⟨by simp [go_sem], by simp [go_sem], by simp [go_sem]⟩
    have HB3 := Lib.hid (HB0.out.trans (B.alloc' ((w.alloc (.cells #[.pointer (some ⟨p, 0, none⟩)] 48)).alloc (.cells #[.slice Ab nb cb] 47)) (.cells #[.func (.func 128) #[] #[.pointer (some ⟨w.heap.size, 0, none⟩), .pointer (some ⟨w.heap.size + 1, 0, none⟩), .pointer (some ⟨w.heap.size + 1 + 1, 0, none⟩)]] 146)))
    have HU := Lib.hid (up128 (bt := w.heap.size) (bb := w.heap.size + 1) (bf := w.heap.size + 1 + 1) m j xs _ _ (by omega) (by omega) (by rw [hlen, hlf]) hM hbl (hT.later HB3.out) (hb.later HB3.out) (hI.later HB3.out) hF)
    have q1 : ((xs.length : Int) != (lenF j m : Int)) = false := by rw [hlen]; simp
    have h1' : ¬ (j : Int) < 0 := h1
    have h2' : ¬ (m : Int) ≤ j := h2
    rw [← E.out]
    clear hT hM hb hbl hI hi63 hn63 hc1 hc2 hr hnb hlen hlf h1 h2 hF E
    generalize comesF M b j m xs = r at *
    obtain ⟨d, ok⟩ := r
    generalize lenF j m = lf at *
    cases ok
    all_goals
      go_enter Try.func103, Try.ntmps103
      go_wp2_with (first
        | (go_at_call 99; (with_reducible refine HLN.out.mono ?_); rintro e w1 ⟨rfl, rfl⟩)
        | (go_at_call 128; (with_reducible refine HU.out.mono ?_); rintro e w2 ⟨rfl, hb2⟩))
      go_ret
      exact ⟨by simp, HB3.out.trans hb2⟩
  · have E := Lib.hid (show false = verF M rt b i n xs by unfold verF; rw [if_pos (.inr (.inr hlen))])
    subst hv
    have q1 : ((xs.length : Int) != (lenF i n : Int)) = true := by simp; omega
    generalize lenF i n = lf at *
    clear hT hM hb hbl hI hi63 hn63 hc1 hc2 hr hnb hlen
    go_enter Try.func103, Try.ntmps103
    go_wp2_with (first
      | (go_at_call 99; (with_reducible refine HLN.out.mono ?_); rintro e w1 ⟨rfl, rfl⟩))
    go_ret
    exact ⟨retB E.out, HB0.out⟩
end
end Go.Proofs.Ythgpkbhilkdckaa

/- Prove of merkle's reference. -/
namespace Go.Proofs.Ythgpkbhilkdckaa
open Go.RowKit Go.Deep
set_option linter.unusedVariables false

/-- a leaf's proof, and the table behind it -/
def proveF (M : List (List UInt8)) (i : Nat) (L : List (List UInt8)) : List Int × List (List UInt8) :=
  if h : 2 ≤ L.length then
    if i < splitN L.length then
      let r := proveF M i (L.take (splitN L.length))
      let d := rootF r.2 (L.drop (splitN L.length))
      (r.1 ++ [d.1], d.2)
    else
      let r := proveF M (i - splitN L.length) (L.drop (splitN L.length))
      let d := rootF r.2 (L.take (splitN L.length))
      (r.1 ++ [d.1], d.2)
  else ([], M)
termination_by L.length
decreasing_by
  · have := splitN_bd h; simp; omega
  · have := splitN_bd h; simp; omega
theorem proveF_one {M L : List (List UInt8)} {i : Nat} (h : ¬ 2 ≤ L.length) : proveF M i L = ([], M) := by rw [proveF, dif_neg h]
theorem proveF_lt {M L : List (List UInt8)} {i : Nat} (h : 2 ≤ L.length) (hi : i < splitN L.length) : proveF M i L = ((proveF M i (L.take (splitN L.length))).1 ++ [(rootF (proveF M i (L.take (splitN L.length))).2 (L.drop (splitN L.length))).1], (rootF (proveF M i (L.take (splitN L.length))).2 (L.drop (splitN L.length))).2) := by
  conv => lhs; rw [proveF]
  rw [dif_pos h, if_pos hi]
theorem proveF_ge {M L : List (List UInt8)} {i : Nat} (h : 2 ≤ L.length) (hi : ¬ i < splitN L.length) : proveF M i L = ((proveF M (i - splitN L.length) (L.drop (splitN L.length))).1 ++ [(rootF (proveF M (i - splitN L.length) (L.drop (splitN L.length))).2 (L.take (splitN L.length))).1], (rootF (proveF M (i - splitN L.length) (L.drop (splitN L.length))).2 (L.take (splitN L.length))).2) := by
  conv => lhs; rw [proveF]
  rw [dif_pos h, if_neg hi]
theorem proveF_bd : ∀ (n : Nat) (L : List (List UInt8)), L.length = n → ∀ (i : Nat) (M : List (List UInt8)), M.length ≤ 1048576 → (proveF M i L).2.length ≤ 1048576 ∧ (proveF M i L).1.length ≤ L.length ∧ ∀ x ∈ (proveF M i L).1, x ≤ 1048576 := by
  intro n
  induction n using Nat.strongRecOn with
  | ind n ih =>
    intro L hL i M hM
    by_cases h2 : 2 ≤ L.length
    · have hb := splitN_bd h2
      by_cases hi : i < splitN L.length
      · have h1 := ih (splitN L.length) (by omega) (L.take (splitN L.length)) (by simp; omega) i M hM
        have h3 := rootF_bd _ (L.drop (splitN L.length)) rfl _ h1.1
        have hl := h1.2.1
        rw [List.length_take] at hl
        rw [proveF_lt h2 hi]
        refine ⟨h3.1, by simp; omega, fun x hx => ?_⟩
        rcases List.mem_append.1 hx with e | e
        · exact h1.2.2 x e
        · simp at e; rw [e]; exact h3.2.2
      · have h1 := ih (L.length - splitN L.length) (by omega) (L.drop (splitN L.length)) (by simp) (i - splitN L.length) M hM
        have h3 := rootF_bd _ (L.take (splitN L.length)) rfl _ h1.1
        have hl := h1.2.1
        rw [List.length_drop] at hl
        rw [proveF_ge h2 hi]
        refine ⟨h3.1, by simp; omega, fun x hx => ?_⟩
        rcases List.mem_append.1 hx with e | e
        · exact h1.2.2 x e
        · simp at e; rw [e]; exact h3.2.2
    · rw [proveF_one h2]; exact ⟨hM, by simp, by simp⟩
theorem info23 : (Try.prog.info? 23).map (fun i => (i.zero, i.size, i.bytes)) = some (some (.int .i64 0), 1, 8) := by kernel_rfl
def cellsI (xs : List Int) : List Value := xs.map fun x => .int .i64 x
/-- digests in a row of their own -/
def aDg (v : Value) (xs : List Int) : Asn := aRow 23 1 v xs.length (cellsI xs)
theorem aDg.nil {W w : World} {L : List Asn} (h : St W w L) : St W w (aDg (.slice none 0 0) [] :: L) :=
  h.add (Below.refl _ _) (A := aDg (.slice none 0 0) []) (own := fun _ => False) ⟨ownNil _ _ _ _, fun g hg => by simp [Value.ownBlock] at hg⟩ (fun x e => e.elim)
def ProvePost (W : World) (A : Nat → List (List UInt8) → Asn) (p : Nat) (X : List Asn) (r : List Int × List (List UInt8)) (e : Ending) (w' : World) : Prop :=
  ∃ v, e = .returned (.tuple #[v, .int .i64 0]) ∧ St W w' (aDg v r.1 :: A p r.2 :: X)
section
variable {W : World} {p : Nat} {X : List Asn}
set_option maxRecDepth 20000 in
set_option maxHeartbeats 4000000 in
theorem St.prove107 : ∀ (n : Nat) (L : List (List UInt8)), L.length = n → n ≤ 1099511627776 → (∀ x ∈ L, x.length + 1 ≤ big) → ∀ (i : Nat) (M : List (List UInt8)) (w : World) (A : Option Addr) (c : Nat), i < n → M.length ≤ 1048576 →
    (∀ (w' : World) (M' : List (List UInt8)), St W w' (aRef p M' :: X) → ∃ inn, Lss inn w' (.slice A n c) L) → St W w (aRef p M :: X) →
    Calls Try.prog 107 #[.pointer (some ⟨p, 0, none⟩), .int .i64 (i : Int), .slice A n c] w (ProvePost W aRef p X (proveF M i L)) := by
  intro n
  induction n using Nat.strongRecOn with
  | ind n ih =>
    intro L hL hn40 hlen i M w A c hin hM hv h
    obtain ⟨inn, hl⟩ := hv w M h
    obtain ⟨A', c', hv', hnn, hc1, hm1, hr⟩ := id hl
    injection hv' with e1 e0 e2
    subst e1 e2
    clear hnn
    have hini : (i : Int) < n := by omega
    have hn63 : (n : Int) ≤ 1099511627776 := by omega
    by_cases h2 : 2 ≤ n
    · have hb := splitN_bd h2
      have HSP := Lib.hid (split98 w (n : Int) (by omega))
      rw [Int.toNat_natCast] at HSP
      have hsn : (splitN n : Int) ≤ n := by omega
      have r1 : ∀ w' : World, (Instr.slice 46 (.slice A n c) none (some (.int .i64 (splitN n : Int))) none).run Try.prog w' = .ok (.slice A (splitN n) c) w' := fun w' => (Lss.runTo (by omega) (by omega) w').1
      have r2 : ∀ w' : World, (Instr.sliceAt 46 (.slice A n c) none (some (.int .i64 (splitN n : Int))) none).run Try.prog w' = .ok (.slice A (splitN n) c) w' := fun w' => (Lss.runTo (by omega) (by omega) w').2
      have r3 : ∀ w' : World, (Instr.slice 46 (.slice A n c) (some (.int .i64 (splitN n : Int))) none none).run Try.prog w' = .ok (.slice (cutA A c (splitN n)) (n - splitN n) (c - splitN n)) w' := fun w' => (Lss.runFrom (by omega) (by omega) w').1
      have r4 : ∀ w' : World, (Instr.sliceAt 46 (.slice A n c) (some (.int .i64 (splitN n : Int))) none none).run Try.prog w' = .ok (.slice (cutA A c (splitN n)) (n - splitN n) (c - splitN n)) w' := fun w' => (Lss.runFrom (by omega) (by omega) w').2
      have hvT : ∀ (w' : World) (M' : List (List UInt8)), St W w' (aRef p M' :: X) → ∃ inn, Lss inn w' (.slice A (splitN n) c) (L.take (splitN n)) := fun w' M' h' => by
        obtain ⟨inn, hl⟩ := hv w' M' h'
        exact ⟨inn, (show Lss inn w' (.slice A L.length c) L by rw [hL]; exact hl).to (splitN n) (by omega)⟩
      have hvD : ∀ (w' : World) (M' : List (List UInt8)), St W w' (aRef p M' :: X) → ∃ inn, Lss inn w' (.slice (cutA A c (splitN n)) (n - splitN n) (c - splitN n)) (L.drop (splitN n)) := fun w' M' h' => by
        obtain ⟨inn, hl⟩ := hv w' M' h'
        have := (show Lss inn w' (.slice A L.length c) L by rw [hL]; exact hl).from_ (splitN n) (by omega)
        rw [hL] at this
        exact ⟨inn, this⟩
      have q1 : ((n : Int) == 1) = false := by simp; omega
      by_cases hi : i < splitN n
      · have E := Lib.hid (proveF_lt (M := M) (L := L) (i := i) (by omega) (by rw [hL]; exact hi))
        rw [hL] at E
        have hbd := proveF_bd _ (L.take (splitN n)) rfl i M hM
        have IH := Lib.hid (ih (splitN n) hb.2 (L.take (splitN n)) (by simp; omega) (by omega) (fun x hx => hlen x (List.mem_of_mem_take hx)) i M w A c hi hM hvT h)
        have HRT := Lib.hid (fun (w2 : World) (v : Value) (h2 : St W w2 (aRef p (proveF M i (L.take (splitN n))).2 :: aDg v (proveF M i (L.take (splitN n))).1 :: X)) =>
          St.root104 (X := aDg v (proveF M i (L.take (splitN n))).1 :: X) (n - splitN n) (L.drop (splitN n)) (by simp; omega) (fun x hx => hlen x (List.mem_of_mem_drop hx)) _ w2 (cutA A c (splitN n)) (c - splitN n) hbd.1 (fun w' M' h' => hvD w' M' h'.drop2) h2)
        have hpl : (proveF M i (L.take (splitN n))).1.length ≤ 1099511627776 := by have := hbd.2.1; simp at this; omega
        have hii : (i : Int) < (splitN n : Int) := by omega
        rw [E.out]
        generalize rootF (proveF M i (L.take (splitN n))).2 (L.drop (splitN n)) = d at *
        generalize proveF M i (L.take (splitN n)) = r at *
        obtain ⟨ps, M1⟩ := r
        simp only at hpl HRT
        obtain ⟨lp, hlp⟩ : ∃ k, ps.length = k := ⟨_, rfl⟩
        have HLP := Lib.hid hlp
        rw [hlp] at hpl
        have g1 : lp + 1 ≤ maxLen := by unfold maxLen; omega
        have g2 : (lp + 1) * 8 ≤ 140737488355328 := by omega
        have o1 : ∀ x ∈ [Value.int .i64 d.1], x.oneCell' = true := by simp [Value.oneCell']
        generalize cutA A c (splitN n) = A2 at *
        generalize n - splitN n = n2 at *
        generalize c - splitN n = c2 at *
        generalize splitN n = sp at *
        clear hb hbd ih hlen hM hv h hl hr hc1 hm1 h2 hL E e0 hvT hvD hin hlp hpl hn40 hi
        go_enter Try.func107, Try.ntmps107
        go_wp2_with (first
          | (go_at_call 98; (with_reducible refine HSP.out.mono ?_); rintro e w1 ⟨rfl, rfl⟩)
          | (go_at_call 107; (with_reducible refine IH.out.mono ?_); rintro e w2 ⟨v2, rfl, hS⟩; have H2 := Lib.hid hS.swap; obtain ⟨A5, c5, hv5⟩ := hS.rowSlice; rw [HLP.out] at hv5; subst hv5; clear hS)
          | (go_at_call 104; (with_reducible refine (HRT.out _ _ H2.out).mono ?_); rintro e w3 ⟨rfl, hS⟩; have H3 := Lib.hid (hS.swap.later (B.alloc' w3 (.cells #[.int .i64 d.1] 23))); clear hS)
          | (at_builtin; refine wpList_append_St rfl (.tmp 39) (.tmp 45) 124 rfl Try.underlying124 info23 rfl Nat.zero_lt_one rfl rfl (show St W _ (aRow 23 1 (.slice A5 lp c5) lp (cellsI ps) :: _) from by have := H3.out; unfold aDg at this; rw [HLP.out] at this; exact this) (Rd.lit w3 #[.int .i64 d.1] 23 1 rfl) o1 g1 g2 ?_; intro A6 c6 w6 hS; have H6 := Lib.hid hS; clear hS))
        go_ret2
        refine ⟨_, rfl, ?_⟩
        have := H6.out
        unfold aDg
        rw [List.length_append, HLP.out, show cellsI (ps ++ [d.1]) = cellsI ps ++ [Value.int .i64 d.1] by simp [cellsI]]
        exact this
      · have E := Lib.hid (proveF_ge (M := M) (L := L) (i := i) (by omega) (by rw [hL]; exact hi))
        rw [hL] at E
        have hbd := proveF_bd _ (L.drop (splitN n)) rfl (i - splitN n) M hM
        have ih1 := (ih (n - splitN n) (by omega) (L.drop (splitN n)) (by simp; omega) (by omega) (fun x hx => hlen x (List.mem_of_mem_drop hx)) (i - splitN n) M w (cutA A c (splitN n)) (c - splitN n) (by omega) hM hvD h)
        rw [show ((i - splitN n : Nat) : Int) = (i : Int) - (splitN n : Int) by omega] at ih1
        have IH := Lib.hid ih1
        have hsi : (splitN n : Int) ≤ i := by omega
        have HRT := Lib.hid (fun (w2 : World) (v : Value) (h2 : St W w2 (aRef p (proveF M (i - splitN n) (L.drop (splitN n))).2 :: aDg v (proveF M (i - splitN n) (L.drop (splitN n))).1 :: X)) =>
          St.root104 (X := aDg v (proveF M (i - splitN n) (L.drop (splitN n))).1 :: X) (splitN n) (L.take (splitN n)) (by simp; omega) (fun x hx => hlen x (List.mem_of_mem_take hx)) _ w2 A c hbd.1 (fun w' M' h' => hvT w' M' h'.drop2) h2)
        have hpl : (proveF M (i - splitN n) (L.drop (splitN n))).1.length ≤ 1099511627776 := by have := hbd.2.1; simp at this; omega
        have hii : ¬ (i : Int) < (splitN n : Int) := by omega
        rw [E.out]
        generalize rootF (proveF M (i - splitN n) (L.drop (splitN n))).2 (L.take (splitN n)) = d at *
        generalize proveF M (i - splitN n) (L.drop (splitN n)) = r at *
        obtain ⟨ps, M1⟩ := r
        simp only at hpl HRT
        obtain ⟨lp, hlp⟩ : ∃ k, ps.length = k := ⟨_, rfl⟩
        have HLP := Lib.hid hlp
        rw [hlp] at hpl
        have g1 : lp + 1 ≤ maxLen := by unfold maxLen; omega
        have g2 : (lp + 1) * 8 ≤ 140737488355328 := by omega
        have o1 : ∀ x ∈ [Value.int .i64 d.1], x.oneCell' = true := by simp [Value.oneCell']
        generalize cutA A c (splitN n) = A2 at *
        generalize n - splitN n = n2 at *
        generalize c - splitN n = c2 at *
        generalize splitN n = sp at *
        clear ih1 hb hbd ih hlen hM hv h hl hr hc1 hm1 h2 hL E e0 hvT hvD hin hlp hpl hn40 hi
        go_enter Try.func107, Try.ntmps107
        go_wp2_with (first
          | (go_at_call 98; (with_reducible refine HSP.out.mono ?_); rintro e w1 ⟨rfl, rfl⟩)
          | (go_at_call 107; (with_reducible refine IH.out.mono ?_); rintro e w2 ⟨v2, rfl, hS⟩; have H2 := Lib.hid hS.swap; obtain ⟨A5, c5, hv5⟩ := hS.rowSlice; rw [HLP.out] at hv5; subst hv5; clear hS)
          | (go_at_call 104; (with_reducible refine (HRT.out _ _ H2.out).mono ?_); rintro e w3 ⟨rfl, hS⟩; have H3 := Lib.hid (hS.swap.later (B.alloc' w3 (.cells #[.int .i64 d.1] 23))); clear hS)
          | (at_builtin; refine wpList_append_St rfl (.tmp 58) (.tmp 64) 124 rfl Try.underlying124 info23 rfl Nat.zero_lt_one rfl rfl (show St W _ (aRow 23 1 (.slice A5 lp c5) lp (cellsI ps) :: _) from by have := H3.out; unfold aDg at this; rw [HLP.out] at this; exact this) (Rd.lit w3 #[.int .i64 d.1] 23 1 rfl) o1 g1 g2 ?_; intro A6 c6 w6 hS; have H6 := Lib.hid hS; clear hS))
        go_ret2
        refine ⟨_, rfl, ?_⟩
        have := H6.out
        unfold aDg
        rw [List.length_append, HLP.out, show cellsI (ps ++ [d.1]) = cellsI ps ++ [Value.int .i64 d.1] by simp [cellsI]]
        exact this
    · obtain rfl : n = 1 := by omega
      rw [proveF_one (by omega)]
      have H := Lib.hid h
      have hi0 : (i : Int) < 1 := by omega
      clear ih hlen hM hv h hl hr hc1 hm1 h2 hL e0 hin hini hn63 hn40
      go_enter Try.func107, Try.ntmps107
      go_wp2_with fail
      go_ret2
      exact ⟨_, rfl, aDg.nil H.out⟩
end
end Go.Proofs.Ythgpkbhilkdckaa

/- The closure of merkle.Prove. -/
namespace Go.Proofs.Ythgpkbhilkdckaa
open Go.RowKit Go.Deep
set_option linter.unusedVariables false

def downF (bt bp bf : Nat) : Value := .func (.func 127) #[] #[.pointer (some ⟨bf, 0, none⟩), .pointer (some ⟨bp, 0, none⟩), .pointer (some ⟨bt, 0, none⟩)]
def DownPost (W : World) (p bp : Nat) (X : List Asn) (ps : List Int) (r : List Int × List (List UInt8)) (e : Ending) (w' : World) : Prop :=
  ∃ v, e = .returned (.tuple #[]) ∧ St W w' (aTab p r.2 :: aDg v (ps ++ r.1) :: aBlk bp 124 #[v] :: X)
section
variable {P : Program} {W w : World} {ops : Array Oper} {rest : List Oper} {o : Oper} {a : Act} {K : Act → World → Prop} {Q : Exit → Act → World → Prop} {E : Prop} {L : List Asn}
theorem step_append_St (hgd : o.guard = none) (s x : Operand) (t : TypeId) (ho : o.op = .call { callee := .builtin .append, args := #[s, x], argTypes := #[t, t] })
    {e : TypeId} {z : Value} {sz bytes : Nat} (ht : P.underlying t = some (.slice e)) (hie : (P.info? e).map (fun i => (i.zero, i.size, i.bytes)) = some (some z, sz, bytes)) (hz : z.cells.size = sz) (hsz : 0 < sz)
    {n m : Nat} {v u : Value} {xs news : List Value} (hs : a.eval s = v) (hx : a.eval x = u) (hown : St W w (aRow e sz v n xs :: L)) (hu : Rd w u m sz news) (h1 : ∀ x ∈ news, x.oneCell' = true) (h63 : n + m ≤ maxLen) (hroom : (n + m) * bytes ≤ 140737488355328)
    (h : ∀ A c w', St W w' (aRow e sz (.slice A (n + m) c) (n + m) (xs ++ news) :: L) → K (a.put o.dst (.slice A (n + m) c)) w') :
    if Region.wanted o (yielded ops a.tmps) = true then Oper.wp P o a w K Q else E := by
  obtain ⟨own, hr, ho', hback⟩ := hown.focus
  refine step_append_Rd hgd s x t ho ht hie hz hsz hs hx hr.1 hu h1 h63 hroom (Nat.zero_le _) fun A c w' r1 x1 y1 => ?_
  refine h A c w' (hback w' (aRow e sz (.slice A (n + m) c) (n + m) (xs ++ news)) ((Ext.refl own w).grown x1 (fun g e' _ => hr.2 g e')) ⟨r1, fun g hg => ?_⟩)
  rcases y1 with e' | e'
  · exact .inl (hr.2 g (by rw [← e', hg]))
  · right; rw [e'] at hg; injection hg with hg; omega
end
theorem St.frozenOf {W w : World} {L : List Asn} {g : Nat} {t : TypeId} {cs : Array Value} (h : St W w L) (hm : aBlk g t cs ∈ L) (i : Nat) : w.frozen? ⟨g, i, none⟩ = false := by
  obtain ⟨own, h1, h2⟩ := h.2.mem hm
  exact h2.frozen i
section
variable {W : World} {p bt bp bf : Nat} {X : List Asn}
set_option maxRecDepth 20000 in
set_option maxHeartbeats 4000000 in
theorem St.down127 (hx1 : aBlk bt 48 #[.pointer (some ⟨p, 0, none⟩)] ∈ X) (hx2 : aBlk bf 145 #[downF bt bp bf] ∈ X) : ∀ (n : Nat) (L : List (List UInt8)), L.length = n → n ≤ 1099511627776 → (∀ x ∈ L, x.length + 1 ≤ big) → ∀ (i : Nat) (M : List (List UInt8)) (ps : List Int) (v : Value) (w : World) (A : Option Addr) (c : Nat), i < n → ps.length + n ≤ 1099511627776 → M.length ≤ 1048576 →
    (∀ (w' : World) (M' : List (List UInt8)) (v' : Value) (ps' : List Int), St W w' (aTab p M' :: aDg v' ps' :: aBlk bp 124 #[v'] :: X) → ∃ inn, Lss inn w' (.slice A n c) L) → St W w (aTab p M :: aDg v ps :: aBlk bp 124 #[v] :: X) →
    Calls Try.prog 127 #[.int .i64 (i : Int), .slice A n c, .pointer (some ⟨bf, 0, none⟩), .pointer (some ⟨bp, 0, none⟩), .pointer (some ⟨bt, 0, none⟩)] w (DownPost W p bp X ps (proveF M i L)) := by
  intro n
  induction n using Nat.strongRecOn with
  | ind n ih =>
    intro L hL hn40 hlen i M ps v w A c hin hps hM hv h
    obtain ⟨inn, hl⟩ := hv w M v ps h
    obtain ⟨A', c', hv', hnn, hc1, hm1, hr⟩ := id hl
    injection hv' with e1 e0 e2
    subst e1 e2
    clear hnn
    have hini : (i : Int) < n := by omega
    have hn63 : (n : Int) ≤ 1099511627776 := by omega
    by_cases h2 : 2 ≤ n
    · have hb := splitN_bd h2
      have HSP := Lib.hid (split97 w (n : Int) (by omega))
      rw [Int.toNat_natCast] at HSP
      have hsn : (splitN n : Int) ≤ n := by omega
      have r1 : ∀ w' : World, (Instr.slice 46 (.slice A n c) none (some (.int .i64 (splitN n : Int))) none).run Try.prog w' = .ok (.slice A (splitN n) c) w' := fun w' => (Lss.runTo (by omega) (by omega) w').1
      have r2 : ∀ w' : World, (Instr.sliceAt 46 (.slice A n c) none (some (.int .i64 (splitN n : Int))) none).run Try.prog w' = .ok (.slice A (splitN n) c) w' := fun w' => (Lss.runTo (by omega) (by omega) w').2
      have r3 : ∀ w' : World, (Instr.slice 46 (.slice A n c) (some (.int .i64 (splitN n : Int))) none none).run Try.prog w' = .ok (.slice (cutA A c (splitN n)) (n - splitN n) (c - splitN n)) w' := fun w' => (Lss.runFrom (by omega) (by omega) w').1
      have r4 : ∀ w' : World, (Instr.sliceAt 46 (.slice A n c) (some (.int .i64 (splitN n : Int))) none none).run Try.prog w' = .ok (.slice (cutA A c (splitN n)) (n - splitN n) (c - splitN n)) w' := fun w' => (Lss.runFrom (by omega) (by omega) w').2
      have hvT : ∀ (w' : World) (M' : List (List UInt8)) (v' : Value) (ps' : List Int), St W w' (aTab p M' :: aDg v' ps' :: aBlk bp 124 #[v'] :: X) → ∃ inn, Lss inn w' (.slice A (splitN n) c) (L.take (splitN n)) := fun w' M' v' ps' h' => by
        obtain ⟨inn, hl⟩ := hv w' M' v' ps' h'
        exact ⟨inn, (show Lss inn w' (.slice A L.length c) L by rw [hL]; exact hl).to (splitN n) (by omega)⟩
      have hvD : ∀ (w' : World) (M' : List (List UInt8)) (v' : Value) (ps' : List Int), St W w' (aTab p M' :: aDg v' ps' :: aBlk bp 124 #[v'] :: X) → ∃ inn, Lss inn w' (.slice (cutA A c (splitN n)) (n - splitN n) (c - splitN n)) (L.drop (splitN n)) := fun w' M' v' ps' h' => by
        obtain ⟨inn, hl⟩ := hv w' M' v' ps' h'
        have := (show Lss inn w' (.slice A L.length c) L by rw [hL]; exact hl).from_ (splitN n) (by omega)
        rw [hL] at this
        exact ⟨inn, this⟩
      have q1 : ((n : Int) == 1) = false := by simp; omega
      have kf : w.drew.cell? ⟨bf, 0, none⟩ = some (downF bt bp bf) := (h.later (Below.refl _ _).drew).cellOf (g := bf) (t := 145) (cs := #[downF bt bp bf]) (by simp [hx2]) 0
      by_cases hi : i < splitN n
      · have E := Lib.hid (proveF_lt (M := M) (L := L) (i := i) (by omega) (by rw [hL]; exact hi))
        rw [hL] at E
        have hbd := proveF_bd _ (L.take (splitN n)) rfl i M hM
        have IH := Lib.hid (ih (splitN n) hb.2 (L.take (splitN n)) (by simp; omega) (by omega) (fun x hx => hlen x (List.mem_of_mem_take hx)) i M ps v w.drew A c hi (by omega) hM hvT (h.later (Below.refl _ _).drew))
        have HRT := Lib.hid (fun (w2 : World) (v : Value) (ps' : List Int) (h2 : St W w2 (aTab p (proveF M i (L.take (splitN n))).2 :: aDg v ps' :: aBlk bp 124 #[v] :: X)) =>
          St.root101 (X := aDg v ps' :: aBlk bp 124 #[v] :: X) (n - splitN n) (L.drop (splitN n)) (by simp; omega) (fun x hx => hlen x (List.mem_of_mem_drop hx)) _ w2 (cutA A c (splitN n)) (c - splitN n) hbd.1 (fun w' M' h' => hvD w' M' v ps' h') h2)
        have hpl : (ps ++ (proveF M i (L.take (splitN n))).1).length + 1 ≤ 1099511627776 := by have := hbd.2.1; simp at this ⊢; omega
        have hii : (i : Int) < (splitN n : Int) := by omega
        rw [E.out]
        generalize rootF (proveF M i (L.take (splitN n))).2 (L.drop (splitN n)) = d at *
        generalize proveF M i (L.take (splitN n)) = r at *
        obtain ⟨ps1, M1⟩ := r
        simp only at hpl HRT
        obtain ⟨lp, hlp⟩ : ∃ k, (ps ++ ps1).length = k := ⟨_, rfl⟩
        have HLP := Lib.hid hlp
        rw [hlp] at hpl
        have g1 : lp + 1 ≤ maxLen := by unfold maxLen; omega
        have g2 : (lp + 1) * 8 ≤ 140737488355328 := by omega
        have o1 : ∀ x ∈ [Value.int .i64 d.1], x.oneCell' = true := by simp [Value.oneCell']
        generalize cutA A c (splitN n) = A2 at *
        generalize n - splitN n = n2 at *
        generalize c - splitN n = c2 at *
        generalize splitN n = sp at *
        clear hb hbd ih hlen hM hv h hl hr hc1 hm1 h2 hL E e0 hvT hvD hin hlp hpl hn40 hi hps
        unfold downF at kf
        go_enter Try.func127, Try.ntmps127
        go_wp2_with (first
          | (go_at_call 97; (with_reducible refine HSP.out.mono ?_); rintro e w1 ⟨rfl, rfl⟩))
        go_region_with (first
          | (go_at_call 127; (with_reducible refine IH.out.mono ?_); rintro e w2 ⟨v2, rfl, hS⟩; obtain ⟨A5, c5, hv5⟩ := hS.swap.rowSlice; rw [HLP.out] at hv5; subst hv5; have H2 := Lib.hid (hS.later (Below.refl _ _).drew); clear hS; have kb := H2.out.cellOf (g := bp) (t := 124) (cs := #[.slice A5 lp c5]) (by simp) 0; have kt := H2.out.cellOf (g := bt) (t := 48) (cs := #[.pointer (some ⟨p, 0, none⟩)]) (by simp [hx1]) 0; simp only [List.getElem?_toArray, List.getElem?_cons_zero] at kb kt))
        go_wp2_with fail
        go_region_law (first
          | (refine step_call rfl 101 #[.tmp 24, .tmp 27] #[48, 46] rfl Try.call101 (HRT.out _ _ _ H2.out) rfl ?_; rintro e w3 ⟨rfl, hS⟩; refine ⟨_, rfl, ?_⟩; have H3 := Lib.hid (hS.later (B.alloc' w3 (.cells #[.int .i64 d.1] 23))); have pa := hS.cellOf (g := bp) (t := 124) (cs := #[.slice A5 lp c5]) (by simp) 0; have pb := H3.out.cellOf (g := bp) (t := 124) (cs := #[.slice A5 lp c5]) (by simp) 0; simp only [List.getElem?_toArray, List.getElem?_cons_zero] at pa pb; clear hS)
          | (refine step_append_St rfl (.tmp 23) (.tmp 29) 124 rfl Try.underlying124 info23 rfl Nat.zero_lt_one rfl rfl (show St W _ (aRow 23 1 (.slice A5 lp c5) lp (cellsI (ps ++ ps1)) :: _) from by have := H3.out.swap; unfold aDg at this; rw [HLP.out] at this; exact this) (Rd.lit w3 #[.int .i64 d.1] 23 1 rfl) o1 g1 g2 ?_; intro A6 c6 w6 hS; have H6 := Lib.hid hS; clear hS; have pc := H6.out.cellOf (g := bp) (t := 124) (cs := #[.slice A5 lp c5]) (by simp) 0; have pf := H6.out.frozenOf (g := bp) (t := 124) (cs := #[.slice A5 lp c5]) (by simp) 0; simp only [List.getElem?_toArray, List.getElem?_cons_zero] at pc))
        all_goals
          go_wp2_with fail
          go_end0
          have := aBlk.set H6.out.rot3 0 (.slice A6 (lp + 1) c6)
          refine ⟨.slice A6 (lp + 1) c6, rfl, ?_⟩
          unfold aDg
          rw [← List.append_assoc, List.length_append, HLP.out, show cellsI (ps ++ ps1 ++ [d.1]) = cellsI (ps ++ ps1) ++ [Value.int .i64 d.1] by simp [cellsI]]
          exact this.rot3.swap.rot3.rot3
      · have E := Lib.hid (proveF_ge (M := M) (L := L) (i := i) (by omega) (by rw [hL]; exact hi))
        rw [hL] at E
        have hbd := proveF_bd _ (L.drop (splitN n)) rfl (i - splitN n) M hM
        have ih1 := (ih (n - splitN n) (by omega) (L.drop (splitN n)) (by simp; omega) (by omega) (fun x hx => hlen x (List.mem_of_mem_drop hx)) (i - splitN n) M ps v w.drew (cutA A c (splitN n)) (c - splitN n) (by omega) (by omega) hM hvD (h.later (Below.refl _ _).drew))
        rw [show ((i - splitN n : Nat) : Int) = (i : Int) - (splitN n : Int) by omega] at ih1
        have IH := Lib.hid ih1
        have hwr : IntKind.i64.wrap ((i : Int) - (splitN n : Int)) = (i : Int) - (splitN n : Int) := i64_id (by constructor <;> omega)
        have HRT := Lib.hid (fun (w2 : World) (v : Value) (ps' : List Int) (h2 : St W w2 (aTab p (proveF M (i - splitN n) (L.drop (splitN n))).2 :: aDg v ps' :: aBlk bp 124 #[v] :: X)) =>
          St.root101 (X := aDg v ps' :: aBlk bp 124 #[v] :: X) (splitN n) (L.take (splitN n)) (by simp; omega) (fun x hx => hlen x (List.mem_of_mem_take hx)) _ w2 A c hbd.1 (fun w' M' h' => hvT w' M' v ps' h') h2)
        have hpl : (ps ++ (proveF M (i - splitN n) (L.drop (splitN n))).1).length + 1 ≤ 1099511627776 := by have := hbd.2.1; simp at this ⊢; omega
        have hii : ¬ (i : Int) < (splitN n : Int) := by omega
        rw [E.out]
        generalize rootF (proveF M (i - splitN n) (L.drop (splitN n))).2 (L.take (splitN n)) = d at *
        generalize proveF M (i - splitN n) (L.drop (splitN n)) = r at *
        obtain ⟨ps1, M1⟩ := r
        simp only at hpl HRT
        obtain ⟨lp, hlp⟩ : ∃ k, (ps ++ ps1).length = k := ⟨_, rfl⟩
        have HLP := Lib.hid hlp
        rw [hlp] at hpl
        have g1 : lp + 1 ≤ maxLen := by unfold maxLen; omega
        have g2 : (lp + 1) * 8 ≤ 140737488355328 := by omega
        have o1 : ∀ x ∈ [Value.int .i64 d.1], x.oneCell' = true := by simp [Value.oneCell']
        generalize cutA A c (splitN n) = A2 at *
        generalize n - splitN n = n2 at *
        generalize c - splitN n = c2 at *
        generalize splitN n = sp at *
        clear ih1 hb hbd ih hlen hM hv h hl hr hc1 hm1 h2 hL E e0 hvT hvD hin hlp hpl hn40 hi hps
        unfold downF at kf
        go_enter Try.func127, Try.ntmps127
        go_wp2_with (first
          | (go_at_call 97; (with_reducible refine HSP.out.mono ?_); rintro e w1 ⟨rfl, rfl⟩))
        go_region_with (first
          | (go_at_call 127; (with_reducible refine IH.out.mono ?_); rintro e w2 ⟨v2, rfl, hS⟩; obtain ⟨A5, c5, hv5⟩ := hS.swap.rowSlice; rw [HLP.out] at hv5; subst hv5; have H2 := Lib.hid (hS.later (Below.refl _ _).drew); clear hS; have kb := H2.out.cellOf (g := bp) (t := 124) (cs := #[.slice A5 lp c5]) (by simp) 0; have kt := H2.out.cellOf (g := bt) (t := 48) (cs := #[.pointer (some ⟨p, 0, none⟩)]) (by simp [hx1]) 0; simp only [List.getElem?_toArray, List.getElem?_cons_zero] at kb kt))
        go_wp2_with fail
        go_region_law (first
          | (refine step_call rfl 101 #[.tmp 40, .tmp 43] #[48, 46] rfl Try.call101 (HRT.out _ _ _ H2.out) rfl ?_; rintro e w3 ⟨rfl, hS⟩; refine ⟨_, rfl, ?_⟩; have H3 := Lib.hid (hS.later (B.alloc' w3 (.cells #[.int .i64 d.1] 23))); have pa := hS.cellOf (g := bp) (t := 124) (cs := #[.slice A5 lp c5]) (by simp) 0; have pb := H3.out.cellOf (g := bp) (t := 124) (cs := #[.slice A5 lp c5]) (by simp) 0; simp only [List.getElem?_toArray, List.getElem?_cons_zero] at pa pb; clear hS)
          | (refine step_append_St rfl (.tmp 39) (.tmp 45) 124 rfl Try.underlying124 info23 rfl Nat.zero_lt_one rfl rfl (show St W _ (aRow 23 1 (.slice A5 lp c5) lp (cellsI (ps ++ ps1)) :: _) from by have := H3.out.swap; unfold aDg at this; rw [HLP.out] at this; exact this) (Rd.lit w3 #[.int .i64 d.1] 23 1 rfl) o1 g1 g2 ?_; intro A6 c6 w6 hS; have H6 := Lib.hid hS; clear hS; have pc := H6.out.cellOf (g := bp) (t := 124) (cs := #[.slice A5 lp c5]) (by simp) 0; have pf := H6.out.frozenOf (g := bp) (t := 124) (cs := #[.slice A5 lp c5]) (by simp) 0; simp only [List.getElem?_toArray, List.getElem?_cons_zero] at pc))
        all_goals
          go_wp2_with fail
          go_end0
          have := aBlk.set H6.out.rot3 0 (.slice A6 (lp + 1) c6)
          refine ⟨.slice A6 (lp + 1) c6, rfl, ?_⟩
          unfold aDg
          rw [← List.append_assoc, List.length_append, HLP.out, show cellsI (ps ++ ps1 ++ [d.1]) = cellsI (ps ++ ps1) ++ [Value.int .i64 d.1] by simp [cellsI]]
          exact this.rot3.swap.rot3.rot3
    · obtain rfl : n = 1 := by omega
      rw [proveF_one (by omega)]
      have H := Lib.hid h
      have hi0 : (i : Int) < 1 := by omega
      clear ih hlen hM hv h hl hr hc1 hm1 h2 hL e0 hin hini hn63 hn40
      go_enter Try.func127, Try.ntmps127
      go_wp2_with fail
      go_end0
      exact ⟨_, rfl, by simpa using H.out⟩
end
end Go.Proofs.Ythgpkbhilkdckaa

/- merkle.Prove, whole. -/
namespace Go.Proofs.Ythgpkbhilkdckaa
open Go.RowKit Go.Deep
set_option linter.unusedVariables false
section
variable {W : World} {p : Nat} {X : List Asn}
theorem St.tclone {w : World} {M : List (List UInt8)} (h : St W w (aTab p M :: X)) (hM : fromC M = 0) : Calls Try.prog 62 #[.pointer (some ⟨p, 0, none⟩)] w fun e w' => ∃ q, e = .returned (.pointer (some ⟨q, 0, none⟩)) ∧ B w w' := by
  obtain ⟨own, ht, _⟩ := h.get
  exact (Go.Proofs.Ythgpkbhilkdckaa.tclone62 ht hM).mono fun e w' ⟨q, he, _, hb⟩ => ⟨q, he, hb⟩
set_option maxRecDepth 20000 in
set_option maxHeartbeats 4000000 in
theorem St.prove102 (L : List (List UInt8)) (n : Nat) (hL : L.length = n) (hn40 : n ≤ 1099511627776) (hlen : ∀ x ∈ L, x.length + 1 ≤ big) (i : Nat) (M : List (List UInt8)) (w : World) (A : Option Addr) (c : Nat) (hin : i < n) (hM : M.length ≤ 1048576) (hF : fromC M = 0)
    (hv : ∀ (w' : World) (M' : List (List UInt8)), St W w' (aTab p M' :: X) → ∃ inn, Lss inn w' (.slice A n c) L) (h : St W w (aTab p M :: X)) :
    Calls Try.prog 102 #[.pointer (some ⟨p, 0, none⟩), .int .i64 (i : Int), .slice A n c] w (ProvePost W aTab p X (proveF M i L)) := by
  have hini : (i : Int) < n := by omega
  have hi0 : ¬ (i : Int) < 0 := by omega
  have hni : ¬ (n : Int) ≤ i := by omega
  have hA := aBlk.new h 48 #[.pointer (some ⟨p, 0, none⟩)]
  have HC := Lib.hid (St.tclone hA.swap hF)
  have K := Lib.hid (fun (w1 : World) (hb1 : B (w.alloc (.cells #[.pointer (some ⟨p, 0, none⟩)] 48)) w1) => by
    have h2 := aBlk.new (hA.later hb1) 124 #[.slice none 0 0]
    have h3 := aBlk.new h2 145 #[downF w.heap.size w1.heap.size (w1.heap.size + 1)]
    rw [show (w1.alloc (.cells #[.slice none 0 0] 124)).heap.size = w1.heap.size + 1 by simp [go_sem]] at h3
    exact St.down127 (bt := w.heap.size) (bp := w1.heap.size) (bf := w1.heap.size + 1) (X := aBlk (w1.heap.size + 1) 145 #[downF w.heap.size w1.heap.size (w1.heap.size + 1)] :: aBlk w.heap.size 48 #[.pointer (some ⟨p, 0, none⟩)] :: X) (by simp) (by simp) n L hL hn40 hlen i M [] (.slice none 0 0) _ A c hin (by simpa using hn40) hM
      (fun w' M' v' ps' h' => hv w' M' h'.drop2.drop2.drop2.drop2) (aDg.nil h3.swap.rot4).swap)
  have H0 := Lib.hid h
  clear hv h hL hlen hM hF hA hin hn40
  unfold downF at K
  go_enter Try.func102, Try.ntmps102
  go_wp2_with (first
    | (go_at_call 62; (with_reducible refine HC.out.mono ?_); rintro e w1 ⟨q, rfl, hb1⟩; have HD := Lib.hid (K.out w1 hb1); clear K)
    | (go_at_call 127; (with_reducible refine HD.out.mono ?_); rintro e w2 ⟨v2, rfl, hS⟩; have kb := hS.cellOf (g := w1.heap.size) (t := 124) (cs := #[v2]) (by simp) 0; simp only [List.getElem?_toArray, List.getElem?_cons_zero] at kb; have H2 := Lib.hid hS; clear hS))
  go_ret2
  exact ⟨_, rfl, H2.out.rot3.drop.rot3.drop.rot3.drop.swap⟩
set_option maxRecDepth 20000 in
/-- no such leaf -/
theorem St.prove102_out (n : Nat) (hn40 : n ≤ 1099511627776) (i : Int) (M : List (List UInt8)) (w : World) (A : Option Addr) (c : Nat) (hi : i < 0 ∨ (n : Int) ≤ i) (hF : fromC M = 0) (h : St W w (aTab p M :: X)) :
    Calls Try.prog 102 #[.pointer (some ⟨p, 0, none⟩), .int .i64 i, .slice A n c] w fun e w' => e = .returned (.tuple #[.slice none 0 0, .int .i64 1]) ∧ St W w' (aTab p M :: X) := by
  have hA := aBlk.new h 48 #[.pointer (some ⟨p, 0, none⟩)]
  have HC := Lib.hid (St.tclone hA.swap hF)
  have K := Lib.hid (fun (w1 : World) (hb1 : B (w.alloc (.cells #[.pointer (some ⟨p, 0, none⟩)] 48)) w1) => (hA.later hb1).drop)
  by_cases h0 : i < 0
  · clear h hF hA hi
    go_enter Try.func102, Try.ntmps102
    go_wp2_with (first
      | (go_at_call 62; (with_reducible refine HC.out.mono ?_); rintro e w1 ⟨q, rfl, hb1⟩; have HD := Lib.hid (K.out w1 hb1); clear K))
    go_ret2
    exact ⟨rfl, HD.out⟩
  · have h1 : (n : Int) ≤ i := by omega
    clear h hF hA hi
    go_enter Try.func102, Try.ntmps102
    go_wp2_with (first
      | (go_at_call 62; (with_reducible refine HC.out.mono ?_); rintro e w1 ⟨q, rfl, hb1⟩; have HD := Lib.hid (K.out w1 hb1); clear K))
    go_ret2
    exact ⟨rfl, HD.out⟩
set_option maxRecDepth 20000 in
theorem St.prove107_out (n : Nat) (hn40 : n ≤ 1099511627776) (i : Int) (M : List (List UInt8)) (w : World) (A : Option Addr) (c : Nat) (hi : i < 0 ∨ (n : Int) ≤ i) (h : St W w (aRef p M :: X)) :
    Calls Try.prog 107 #[.pointer (some ⟨p, 0, none⟩), .int .i64 i, .slice A n c] w fun e w' => e = .returned (.tuple #[.slice none 0 0, .int .i64 1]) ∧ St W w' (aRef p M :: X) := by
  have HD := Lib.hid h
  by_cases h0 : i < 0
  · clear h hi
    go_enter Try.func107, Try.ntmps107
    go_wp2_with fail
    go_ret2
    exact ⟨rfl, HD.out⟩
  · have h1 : (n : Int) ≤ i := by omega
    clear h hi
    go_enter Try.func107, Try.ntmps107
    go_wp2_with fail
    go_ret2
    exact ⟨rfl, HD.out⟩
end
end Go.Proofs.Ythgpkbhilkdckaa

/- Merkle: live of chapter 05, what it computes. -/
namespace Go.Proofs.Ythgpkbhilkdckaa
open Go.RowKit Go.Deep
set_option linter.unusedVariables false
theorem splitN_3 : splitN 3 = 2 := by
  unfold splitN; rw [if_neg (by omega), splitW_go (by omega), splitW_end (by omega)]
theorem splitN_2 : splitN 2 = 1 := by
  unfold splitN; rw [if_neg (by omega), splitW_end (by omega)]
theorem splitN_5 : splitN 5 = 4 := by
  unfold splitN; rw [if_neg (by omega), splitW_go (by omega), splitW_go (by omega), splitW_end (by omega)]
theorem rootF_pair (M : List (List UInt8)) (x y : List UInt8) : rootF M [x, y] = (sumN (sumM (sumM M ([0] ++ x)) ([0] ++ y)) (ndB (sumN M ([0] ++ x)) (sumN (sumM M ([0] ++ x)) ([0] ++ y))), sumM (sumM (sumM M ([0] ++ x)) ([0] ++ y)) (ndB (sumN M ([0] ++ x)) (sumN (sumM M ([0] ++ x)) ([0] ++ y)))) := by
  rw [rootF_two (by simp)]
  simp only [List.length_cons, List.length_nil, Nat.zero_add, Nat.reduceAdd, splitN_2, List.take_succ_cons, List.take_zero, List.drop_succ_cons, List.drop_zero, rootF_one]
def abc : List (List UInt8) := [[97], [98], [99]]
def m1 : List (List UInt8) := [[0, 97], [0, 98], [1, 1, 2], [0, 99], [1, 3, 4]]
theorem nd12 : ndB 1 2 = [1, 1, 2] := by
  have a := enc_lt (n := 1) (by omega)
  have b := enc_lt (n := 2) (by omega)
  simp [ndB, a, b]
theorem nd34 : ndB 3 4 = [1, 3, 4] := by
  have a := enc_lt (n := 3) (by omega)
  have b := enc_lt (n := 4) (by omega)
  simp [ndB, a, b]
theorem s1 : sumN [] [0, 97] = 1 := by decide
theorem s2 : sumN [[0, 97]] [0, 98] = 2 := by decide
theorem s3 : sumN [[0, 97], [0, 98]] [1, 1, 2] = 3 := by decide
theorem s4 : sumN [[0, 97], [0, 98], [1, 1, 2]] [0, 99] = 4 := by decide
theorem s5 : sumN [[0, 97], [0, 98], [1, 1, 2], [0, 99]] [1, 3, 4] = 5 := by decide
theorem t1 : sumM [] [0, 97] = [[0, 97]] := by decide
theorem t2 : sumM [[0, 97]] [0, 98] = [[0, 97], [0, 98]] := by decide
theorem t3 : sumM [[0, 97], [0, 98]] [1, 1, 2] = [[0, 97], [0, 98], [1, 1, 2]] := by decide
theorem t4 : sumM [[0, 97], [0, 98], [1, 1, 2]] [0, 99] = [[0, 97], [0, 98], [1, 1, 2], [0, 99]] := by decide
theorem t5 : sumM [[0, 97], [0, 98], [1, 1, 2], [0, 99]] [1, 3, 4] = m1 := by decide
theorem u1 : sumN m1 [0, 97] = 1 := by decide
theorem u2 : sumN m1 [0, 98] = 2 := by decide
theorem u3 : sumN m1 [1, 1, 2] = 3 := by decide
theorem u4 : sumN m1 [0, 99] = 4 := by decide
theorem u5 : sumN m1 [1, 3, 4] = 5 := by decide
theorem v1 : sumM m1 [0, 97] = m1 := by decide
theorem v2 : sumM m1 [0, 98] = m1 := by decide
theorem v3 : sumM m1 [1, 1, 2] = m1 := by decide
theorem v4 : sumM m1 [0, 99] = m1 := by decide
theorem v5 : sumM m1 [1, 3, 4] = m1 := by decide
theorem root_abc : rootF [] abc = (5, m1) := by
  unfold abc
  rw [rootF_two (by simp)]
  simp only [List.length_cons, List.length_nil, Nat.zero_add, Nat.reduceAdd, splitN_3, List.take_succ_cons, List.take_zero, List.drop_succ_cons, List.drop_zero, rootF_one, rootF_pair, List.cons_append, List.nil_append, s1, t1, s2, t2, nd12, s3, t3, s4, t4, nd34, s5, t5]
theorem prove_abc : proveF m1 2 abc = ([3], m1) := by
  unfold abc
  rw [proveF_ge (by simp) (by simp [splitN_3])]
  simp only [List.length_cons, List.length_nil, Nat.zero_add, Nat.reduceAdd, splitN_3, List.take_succ_cons, List.take_zero, List.drop_succ_cons, List.drop_zero, rootF_pair]
  rw [proveF_one (by simp)]
  simp only [List.nil_append, List.cons_append, u1, v1, u2, v2, nd12, u3, v3]
theorem aLss.lit3 {W w : World} {L : List Asn} (h : St W w L) : St W ((((w.alloc (.cells #[.int .u8 97] 5)).alloc (.cells #[.int .u8 98] 5)).alloc (.cells #[.int .u8 99] 5)).alloc (.cells #[.slice (some ⟨w.heap.size, 0, none⟩) 1 1, .slice (some ⟨w.heap.size + 1, 0, none⟩) 1 1, .slice (some ⟨w.heap.size + 1 + 1, 0, none⟩) 1 1] 47)) (aLss (.slice (some ⟨w.heap.size + 1 + 1 + 1, 0, none⟩) 3 3) abc :: L) := by
  have e1 : (w.alloc (.cells #[.int .u8 97] 5)).heap.size = w.heap.size + 1 := by simp [go_sem]
  have e2 : ((w.alloc (.cells #[.int .u8 97] 5)).alloc (.cells #[.int .u8 98] 5)).heap.size = w.heap.size + 1 + 1 := by simp [go_sem]
  have a := Bs.lit w #[.int .u8 97] [97] 1 rfl rfl (by unfold big; simp)
  have b := Bs.lit (w.alloc (.cells #[.int .u8 97] 5)) #[.int .u8 98] [98] 1 rfl rfl (by unfold big; simp)
  have c := Bs.lit ((w.alloc (.cells #[.int .u8 97] 5)).alloc (.cells #[.int .u8 98] 5)) #[.int .u8 99] [99] 1 rfl rfl (by unfold big; simp)
  rw [e1] at b
  rw [e2] at c
  refine h.add ((((B.alloc' _ _).trans (B.alloc' _ _)).trans (B.alloc' _ _)).trans (B.alloc' _ _)) (A := aLss _ abc) (own := fun x => w.heap.size ≤ x) ⟨_, 3, rfl, by simp, by simp [abc], by unfold maxLen; omega, fun _ => ⟨w.heap.size + 1 + 1 + 1, 0, rfl, by simp [go_sem], by omega, fun i x hx => ?_⟩⟩ (fun x hx => hx)
  match i, hx with
  | 0, hx =>
    simp [abc] at hx; subst hx
    exact ⟨_, by simp [go_sem], ((a.later (B.alloc' _ _)).later (B.alloc' _ _)).later (B.alloc' _ _), fun g hg _ => by simp [Value.ownBlock] at hg; omega⟩
  | 1, hx =>
    simp [abc] at hx; subst hx
    exact ⟨_, by simp [go_sem], (b.later (B.alloc' _ _)).later (B.alloc' _ _), fun g hg _ => by simp [Value.ownBlock] at hg; omega⟩
  | 2, hx =>
    simp [abc] at hx; subst hx
    exact ⟨_, by simp [go_sem], c.later (B.alloc' _ _), fun g hg _ => by simp [Value.ownBlock] at hg; omega⟩
  | k + 3, hx => simp [abc] at hx
theorem ver_abc : verF m1 5 [99] 2 3 [3] = true := by
  have hl : lenF 2 3 = 1 := by
    unfold lenF; rw [if_neg (by omega)]
    show lenW 2 3 = 1
    rw [lenW, dif_pos (by omega), splitN_3, if_neg (by omega), lenW, dif_neg (by omega)]
  unfold verF
  rw [if_neg (by rw [hl]; simp)]
  have hc : comesF m1 [99] 2 3 [3] = (5, true) := by
    rw [comesF, dif_pos (by omega), splitN_3, if_neg (by omega), comesF, dif_neg (by omega)]
    have e1 : lk2 m1 ([0] ++ [99]) = (4, true) := by decide
    have e2 : lk2 m1 [1, 3, 4] = (5, true) := by decide
    simp only [e1, if_true, List.length_cons, List.length_nil, Nat.zero_add, Nat.sub_self, List.getD_cons_zero, nd34, e2]
  show ((comesF m1 [99] 2 3 [3]).2 && ((comesF m1 [99] 2 3 [3]).1 == 5)) = true
  rw [hc]; rfl
end Go.Proofs.Ythgpkbhilkdckaa

/- Merkle: live of chapter 05, the walk. -/
namespace Go.Proofs.Ythgpkbhilkdckaa
open Go.RowKit Go.Deep
set_option linter.unusedVariables false
section
variable {W w : World} {p : Nat} {X : List Asn} {v : Value}
theorem St.dgIs {xs : List Int} (h : St W w (aDg v xs :: X)) (hx : ∀ x ∈ xs, x ≤ 9223372036854775807) : Is w v xs := by
  obtain ⟨own, hr, _⟩ := h.get
  rcases hr.1.2 with ⟨rfl, h0⟩ | ⟨g, cap, cur, rfl, hg, hh, hc, hm, hs, ht⟩
  · exact ⟨none, 0, by rw [h0], by omega, by unfold maxLen; omega, fun h => by omega⟩
  · refine ⟨_, cap, rfl, hc, hm, fun h0 => ⟨g, 0, rfl, Blk.lt (t := 23) hh, fun i x hix => ⟨hx x (List.mem_of_getElem? hix), ?_⟩⟩⟩
    have hi : i < xs.length := by
      rcases Nat.lt_or_ge i xs.length with h | h
      · exact h
      · rw [List.getElem?_eq_none h] at hix; cases hix
    have hc : (cellsI xs)[i]? = some (.int .i64 x) := by unfold cellsI; rw [List.getElem?_map, hix]; rfl
    rw [Nat.zero_add, Blk.cell (t := 23) hh, ← hc, ← ht]
    simp [hi]
theorem St.leafC (h : St W w (aTab p m1 :: X)) {wc : World} (hB : B w wc) (y : UInt8) (hb : Bs wc v [y]) (k : Int) (h1 : sumN m1 [0, y] = k) (h2 : sumM m1 [0, y] = m1) :
    Calls Try.prog 93 #[.pointer (some ⟨p, 0, none⟩), v] wc fun e w' => e = .returned (.int .i64 k) ∧ St W w' (aTab p m1 :: X) := by
  have := St.leaf93 (h.later hB) (by decide) hb (by unfold big; simp)
  refine this.mono fun e w' ⟨he, hS⟩ => ⟨?_, ?_⟩
  · rw [he, List.cons_append, List.nil_append, h1]
  · rw [List.cons_append, List.nil_append, h2] at hS; exact hS
theorem aLss.lit3c (h : St W w X) {wa wb wc : World} (Ba : B w wa) (a : Bs wa (.slice (some ⟨w.heap.size, 0, none⟩) 1 1) [97]) (Bb : B wa wb) (b : Bs wb (.slice (some ⟨wa.heap.size, 0, none⟩) 1 1) [98]) (Bc : B wb wc) (c : Bs wc (.slice (some ⟨wb.heap.size, 0, none⟩) 1 1) [99]) :
    St W (wc.alloc (.cells #[.slice (some ⟨w.heap.size, 0, none⟩) 1 1, .slice (some ⟨wa.heap.size, 0, none⟩) 1 1, .slice (some ⟨wb.heap.size, 0, none⟩) 1 1] 47)) (aLss (.slice (some ⟨wc.heap.size, 0, none⟩) 3 3) abc :: X) := by
  have s1 := Ba.size
  have s2 := Bb.size
  have s3 := Bc.size
  refine h.add (((Ba.trans Bb).trans Bc).trans (B.alloc' _ _)) (A := aLss _ abc) (own := fun x => w.heap.size ≤ x) ⟨_, 3, rfl, by simp, by simp [abc], by unfold maxLen; omega, fun _ => ⟨wc.heap.size, 0, rfl, by simp [go_sem], by omega, fun i x hx => ?_⟩⟩ (fun x hx => hx)
  match i, hx with
  | 0, hx =>
    simp [abc] at hx; subst hx
    exact ⟨_, by simp [go_sem], ((a.later Bb).later Bc).later (B.alloc' _ _), fun g hg _ => by simp [Value.ownBlock] at hg; omega⟩
  | 1, hx =>
    simp [abc] at hx; subst hx
    exact ⟨_, by simp [go_sem], (b.later Bc).later (B.alloc' _ _), fun g hg _ => by simp [Value.ownBlock] at hg; omega⟩
  | 2, hx =>
    simp [abc] at hx; subst hx
    exact ⟨_, by simp [go_sem], c.later (B.alloc' _ _), fun g hg _ => by simp [Value.ownBlock] at hg; omega⟩
  | k + 3, hx => simp [abc] at hx
theorem St.nodeC (h : St W w (aTab p m1 :: X)) (l r : Int) (k : Int) (hl : l ≤ 9223372036854775807) (hr : r ≤ 9223372036854775807) (h1 : sumN m1 (ndB l r) = k) (h2 : sumM m1 (ndB l r) = m1) :
    Calls Try.prog 95 #[.pointer (some ⟨p, 0, none⟩), .int .i64 l, .int .i64 r] w fun e w' => e = .returned (.int .i64 k) ∧ St W w' (aTab p m1 :: X) := by
  have := St.node95 h (by decide) l r hl hr
  rw [h1, h2] at this
  exact this
theorem St.rootC {A : Option Addr} {c : Nat} (h : St W w (aLss (.slice A 3 c) abc :: aTab p [] :: X)) :
    Calls Try.prog 101 #[.pointer (some ⟨p, 0, none⟩), .slice A 3 c] w fun e w' => e = .returned (.int .i64 5) ∧ St W w' (aTab p m1 :: X) := by
  have := St.root101 (X := aLss (.slice A 3 c) abc :: X) 3 abc rfl (by unfold abc big; simp) [] w A c (by simp) (fun w' M' h' => by obtain ⟨own, hl, _⟩ := h'.swap.get; exact ⟨own, hl⟩) h.swap
  rw [root_abc] at this
  exact this.mono fun e w' ⟨he, hS⟩ => ⟨he, hS.drop2⟩
theorem St.proveC {A : Option Addr} {c : Nat} (h : St W w (aLss (.slice A 3 c) abc :: aTab p m1 :: X)) :
    Calls Try.prog 102 #[.pointer (some ⟨p, 0, none⟩), .int .i64 2, .slice A 3 c] w fun e w' => ∃ A c, e = .returned (.tuple #[.slice A 1 c, .int .i64 0]) ∧ St W w' (aDg (.slice A 1 c) [3] :: aTab p m1 :: X) := by
  have := St.prove102 (X := aLss (.slice A 3 c) abc :: X) abc 3 rfl (by omega) (by unfold abc big; simp) 2 m1 w A c (by omega) (by decide) (by decide) (fun w' M' h' => by obtain ⟨own, hl, _⟩ := h'.swap.get; exact ⟨own, hl⟩) h.swap
  rw [prove_abc] at this
  refine this.mono fun e w' ⟨v, he, hS⟩ => ?_
  obtain ⟨A', c', rfl⟩ := St.rowSlice hS
  exact ⟨A', c', he, hS.rot3.drop⟩
theorem St.verC {A : Option Addr} {c : Nat} (h : St W w (aDg (.slice A 1 c) [3] :: aTab p m1 :: X)) {wc : World} (hB : B w wc) (hb : Bs wc v [99]) :
    Calls Try.prog 103 #[.pointer (some ⟨p, 0, none⟩), .int .i64 5, v, .int .i64 2, .int .i64 3, .slice A 1 c] wc fun e w' => e = .returned (.bool true) ∧ St W w' X := by
  have h' := h.later hB
  obtain ⟨own, ht, _⟩ := h'.swap.get
  have := verify103 (M := m1) ht (by decide) hb (by unfold big; simp) (h'.dgIs (by simp)) 5 2 3 (by omega) (by omega)
  rw [ver_abc] at this
  exact this.mono fun e w' ⟨he, hb⟩ => ⟨he, (h'.later hb).drop.drop⟩
theorem splitC (w : World) : Calls Try.prog 97 #[.int .i64 5] w fun e w' => e = .returned (.int .i64 4) ∧ w = w' := by
  have := split97 w 5 (by omega)
  rw [show splitN (5 : Int).toNat = 4 from splitN_5] at this
  exact this
set_option maxRecDepth 20000 in
set_option maxHeartbeats 4000000 in
theorem live91 (h : St W w X) : Calls Try.prog 91 #[] w fun e w' => e = .returned (.bool true) ∧ St W w' X := by
  have HN := Lib.hid (St.newTable61 h)
  clear h
  go_enter Try.func91, Try.ntmps91
  go_wp2_with (first
    | (go_at_call 61; (with_reducible refine HN.out.mono ?_); rintro e w1 ⟨p, rfl, hS⟩; obtain ⟨a1, ra1, Ba1, ba1⟩ := strArg w1 97 97 rfl; obtain ⟨b1, rb1, Bb1, bb1⟩ := strArg a1 98 98 rfl; obtain ⟨c1, rc1, Bc1, bc1⟩ := strArg b1 99 99 rfl; have H1 := Lib.hid (aLss.lit3c hS Ba1 ba1 Bb1 bb1 Bc1 bc1); clear hS)
    | (go_at_call 101; (with_reducible refine (St.rootC H1.out).mono ?_); rintro e w2 ⟨rfl, hS⟩; have H2 := Lib.hid hS; clear hS; obtain ⟨a2, ra2, Ba2, ba2⟩ := strArg w2 97 97 rfl; have HB2 := Lib.hid Ba2; have Hb2 := Lib.hid ba2; clear Ba2 ba2)
    | (go_at_call 93; (with_reducible refine (St.leafC H2.out HB2.out 97 Hb2.out 1 u1 v1).mono ?_); rintro e w3 ⟨rfl, hS⟩; have H3 := Lib.hid hS; clear hS; obtain ⟨a3, ra3, Ba3, ba3⟩ := strArg w3 98 98 rfl; have HB3 := Lib.hid Ba3; have Hb3 := Lib.hid ba3; clear Ba3 ba3)
    | (go_at_call 93; (with_reducible refine (St.leafC H3.out HB3.out 98 Hb3.out 2 u2 v2).mono ?_); rintro e w4 ⟨rfl, hS⟩; have H4 := Lib.hid hS; clear hS)
    | (go_at_call 95; (with_reducible refine (St.nodeC H4.out 1 2 3 (by omega) (by omega) (by rw [nd12]; exact u3) (by rw [nd12]; exact v3)).mono ?_); rintro e w5 ⟨rfl, hS⟩; have H5 := Lib.hid hS; clear hS; obtain ⟨a5, ra5, Ba5, ba5⟩ := strArg w5 99 99 rfl; have HB5 := Lib.hid Ba5; have Hb5 := Lib.hid ba5; clear Ba5 ba5)
    | (go_at_call 93; (with_reducible refine (St.leafC H5.out HB5.out 99 Hb5.out 4 u4 v4).mono ?_); rintro e w6 ⟨rfl, hS⟩; have H6 := Lib.hid hS; clear hS)
    | (go_at_call 95; (with_reducible refine (St.nodeC H6.out 3 4 5 (by omega) (by omega) (by rw [nd34]; exact u5) (by rw [nd34]; exact v5)).mono ?_); rintro e w7 ⟨rfl, hS⟩; obtain ⟨a7, ra7, Ba7, ba7⟩ := strArg w7 97 97 rfl; obtain ⟨b7, rb7, Bb7, bb7⟩ := strArg a7 98 98 rfl; obtain ⟨c7, rc7, Bc7, bc7⟩ := strArg b7 99 99 rfl; have H7 := Lib.hid (aLss.lit3c hS Ba7 ba7 Bb7 bb7 Bc7 bc7); clear hS)
    | (go_at_call 102; (with_reducible refine (St.proveC H7.out).mono ?_); rintro e w8 ⟨A8, c8, rfl, hS⟩; have H8 := Lib.hid hS; clear hS; obtain ⟨a8, ra8, Ba8, ba8⟩ := strArg w8 99 99 rfl; have HB8 := Lib.hid Ba8; have Hb8 := Lib.hid ba8; clear Ba8 ba8)
    | (go_at_call 103; (with_reducible refine (St.verC H8.out HB8.out Hb8.out).mono ?_); rintro e w9 ⟨rfl, hS⟩; have H9 := Lib.hid hS; clear hS)
    | (go_at_call 97; (with_reducible refine (splitC _).mono ?_); rintro e w10 ⟨rfl, rfl⟩))
  go_ret
  exact ⟨rfl, H9.out⟩
end
end Go.Proofs.Ythgpkbhilkdckaa

/- Merkle: both tables of the same strings. -/
namespace Go.Proofs.Ythgpkbhilkdckaa
open Go.RowKit Go.Deep
set_option linter.unusedVariables false
/-- the strings summed, one after the other, into an empty table -/
def tabL (L : List (List UInt8)) : List (List UInt8) := L.foldl sumM []
theorem tabL_snoc (L : List (List UInt8)) (x : List UInt8) : tabL (L ++ [x]) = sumM (tabL L) x := by unfold tabL; rw [List.foldl_append]; rfl
theorem foldl_from : ∀ (L M : List (List UInt8)), fromC M = 0 → fromC (L.foldl sumM M) = 0
  | [], M, h => h
  | x :: L, M, h => foldl_from L (sumM M x) (fromC_sum h x)
theorem tabL_from (L : List (List UInt8)) : fromC (tabL L) = 0 := foldl_from L [] (by decide)
theorem tabL_le (L : List (List UInt8)) : (tabL L).length ≤ 1048576 := (fromC_le (tabL_from L)).1
set_option maxRecDepth 20000 in
set_option maxHeartbeats 4000000 in
theorem tables92 {W w : World} {X : List Asn} {v : Value} {L : List (List UInt8)} (hv : Lss (fun g => g < W.heap.size) W v L) (h : St W w X) :
    Calls Try.prog 92 #[v] w fun e w' => ∃ p r, e = .returned (.tuple #[.pointer (some ⟨p, 0, none⟩), .pointer (some ⟨r, 0, none⟩)]) ∧ St W w' (aTab p (tabL L) :: aRef r (tabL L) :: X) := by
  obtain ⟨A, c, rfl, _, hc1, hm1, hr⟩ := hv
  have HR := Lib.hid hr
  have hs : (L.length : Int) ≤ 9223372036854775807 := by unfold maxLen at hm1; omega
  have HN := Lib.hid (St.newTable61 h)
  clear hr hc1 hm1 h
  go_enter Try.func92, Try.ntmps92
  go_wp2_with (first
    | (go_at_call 61; (with_reducible refine HN.out.mono ?_); rintro e w1 ⟨p, rfl, hS⟩; have HS := Lib.hid (hS.add (B.alloc' _ _) (A := aRef w1.heap.size []) (own := fun b => b = w1.heap.size) (RefT.new w1) (fun x e => by omega)).swap; clear hS))
  generalize w1.heap.size = r at *
  generalize w1.alloc (.cells #[.slice none 0 0] 59) = w2 at *
  go_loopw [13] (fun i wr => ∃ q : Nat, q ≤ L.length ∧ i = .int .i64 q ∧ St W wr (aTab p (tabL (L.take q)) :: aRef r (tabL (L.take q)) :: X)) (fun i _ => L.length - (intOf i).toNat)
  case atStart => exact ⟨0, Nat.zero_le _, rfl, by simpa [tabL] using HS.out⟩
  case round =>
    obtain ⟨q, hq, rfl, hS⟩ := hrel
    clear HS
    by_cases hlt : q < L.length
    · obtain ⟨b', off, rfl, hb, _, hc⟩ := HR.out (by omega)
      obtain ⟨u1, k1, k2, k3⟩ := hc q _ (List.getElem?_eq_getElem hlt)
      have k1 := hS.b.cell k1
      have HK := Lib.hid k2
      have HO := Lib.hid (show ∀ g, u1.ownBlock = some g → L[q] ≠ [] → g < W.heap.size from fun g hg hne => k3 g hg hne)
      have E := Lib.hid (show tabL (L.take (q + 1)) = sumM (tabL (L.take q)) L[q] by rw [List.take_succ_eq_append_getElem hlt, tabL_snoc])
      have HML := Lib.hid (show (tabL (L.take q)).length ≤ 9223372036854775806 by have := tabL_le (L.take q); omega)
      have HS2 := Lib.hid hS
      have hqi : (q : Int) < L.length := by omega
      generalize L[q] = x at *
      generalize tabL (L.take q) = M at *
      clear hc k2 k3 hS
      go_wp2_with (first
        | (go_at_call 52; (with_reducible refine (St.sum52 HS2.out (HK.out.later HS2.out.b) HO.out).mono ?_); rintro e w3 ⟨rfl, hS⟩; have HS3 := Lib.hid hS.swap; clear hS)
        | (go_at_call 53; (with_reducible refine (St.rsum53 HS3.out HML.out (HK.out.later HS3.out.b)).mono ?_); rintro e w4 ⟨rfl, hS⟩; have HS4 := Lib.hid hS.swap; clear hS))
      go_roundw
      case rel => exact ⟨q + 1, by omega, by go_num, by rw [E.out]; exact HS4.out⟩
      case measure => simp [intOf]; omega
    · have hqe : q = L.length := by omega
      have hqi : ¬ (q : Int) < L.length := by omega
      subst hqe
      rw [List.take_length] at hS
      have HS2 := Lib.hid hS
      clear hS
      go_wp2_with fail
      go_ret2
      exact ⟨_, _, rfl, HS2.out⟩
end Go.Proofs.Ythgpkbhilkdckaa

/- slices.Equal over digests. -/
namespace Go.Proofs.Ythgpkbhilkdckaa
open Go.RowKit Go.Deep
set_option linter.unusedVariables false
set_option maxRecDepth 20000 in
set_option maxHeartbeats 2000000 in
theorem equal108 {w : World} {v u : Value} {xs ys : List Int} (h : Is w v xs) (k : Is w u ys) : Calls Try.prog 108 #[v, u] w fun e w' => e = .returned (.bool (decide (xs = ys))) ∧ B w w' := by
  obtain ⟨A, c, rfl, hc1, hm1, hr⟩ := h
  obtain ⟨A', c', rfl, _, _, hr'⟩ := k
  have HR := Lib.hid hr
  have HR' := Lib.hid hr'
  have hs : xs.length ≤ 9223372036854775807 := by unfold maxLen at hm1; omega
  clear hr hr' hc1 hm1
  by_cases hl : xs.length = ys.length
  · have q1 : ((xs.length : Int) != (ys.length : Int)) = false := by simp; omega
    rw [← hl]
    have HL := Lib.hid hl
    clear hl
    go_enter Try.func108, Try.ntmps108
    go_wp2_with fail
    go_loopw [13] (fun i wr => ∃ q : Nat, q ≤ xs.length ∧ i = .int .i64 q ∧ Hid (∀ j, j < q → xs[j]? = ys[j]?) ∧ Hid (B w wr)) (fun i _ => xs.length - (intOf i).toNat)
    case atStart => exact ⟨0, Nat.zero_le _, rfl, fun j h => by omega, Below.refl _ _⟩
    case round =>
      obtain ⟨q, hq, rfl, HP, HB⟩ := hrel
      by_cases hlt : q < xs.length
      · obtain ⟨b, off, rfl, hb, hc⟩ := HR.out (by omega)
        obtain ⟨b', off', rfl, hb', hc'⟩ := HR'.out (by have := HL.out; omega)
        have hq' : q < ys.length := by have := HL.out; omega
        obtain ⟨_, k1⟩ := hc q _ (List.getElem?_eq_getElem hlt)
        obtain ⟨_, k3⟩ := hc' q _ (List.getElem?_eq_getElem hq')
        have K1 := B.cell (show B w wr.drew from HB.out.drew) k1
        have K3 := B.cell (show B w wr.drew from HB.out.drew) k3
        have HS := Lib.hid (List.getElem?_eq_getElem hlt)
        have HT := Lib.hid (List.getElem?_eq_getElem hq')
        have hqi : (q : Int) < xs.length := by omega
        generalize xs[q] = x at *
        generalize ys[q] = y at *
        clear hc hc' hq' k1 k3
        by_cases e1 : x = y
        · have E := Lib.hid e1
          have g1 : (x != y) = false := by simp [e1]
          clear e1
          go_wp2_with fail
          go_region
          all_goals
            go_wp2_with fail
            go_roundw
            case rel => exact ⟨q + 1, by omega, by go_num, fun j hj => by
              by_cases e : j = q
              · rw [e, HS.out, HT.out, E.out]
              · exact HP.out j (by omega), HB.out.drew⟩
            case measure => simp [intOf]; omega
        · have g1 : (x != y) = true := by simpa using e1
          have E := Lib.hid (show decide (xs = ys) = false from decide_eq_false (fun e => e1 (by have h1 := HS.out; rw [e, HT.out] at h1; injection h1 with h1; exact h1.symm)))
          clear e1
          go_wp2_with fail
          go_region
          all_goals
            go_wp2_with fail
            go_ret
            exact ⟨retB E.out.symm, HB.out.drew⟩
      · have E := Lib.hid (show decide (xs = ys) = true from decide_eq_true (List.ext_getElem? fun j => by
          by_cases hj : j < q
          · exact HP.out j hj
          · rw [List.getElem?_eq_none (by omega), List.getElem?_eq_none (by have := HL.out; omega)]))
        have hqi : ¬ (q : Int) < xs.length := by omega
        go_wp2_with fail
        go_ret
        exact ⟨retB E.out.symm, HB.out⟩
  · have q1 : ((xs.length : Int) != (ys.length : Int)) = true := by simp; omega
    have E := Lib.hid (show decide (xs = ys) = false from decide_eq_false (fun e => hl (by rw [e])))
    clear hl
    go_enter Try.func108, Try.ntmps108
    go_wp2
    go_ret
    exact ⟨retB E.out.symm, Below.refl _ _⟩
end Go.Proofs.Ythgpkbhilkdckaa

/- Prove, of both packages, whatever the number. -/
namespace Go.Proofs.Ythgpkbhilkdckaa
open Go.RowKit Go.Deep
set_option linter.unusedVariables false
/-- path, error, table after -/
def proveG (M : List (List UInt8)) (i : Int) (L : List (List UInt8)) : List Int × Int × List (List UInt8) :=
  if 0 ≤ i ∧ i < (L.length : Int) then ((proveF M i.toNat L).1, 0, (proveF M i.toNat L).2) else ([], 1, M)
section
variable {W : World} {p : Nat} {X : List Asn}
theorem St.proveG102 (L : List (List UInt8)) (n : Nat) (hL : L.length = n) (hn40 : n ≤ 1099511627776) (hlen : ∀ x ∈ L, x.length + 1 ≤ big) (i : Int) (M : List (List UInt8)) (w : World) (A : Option Addr) (c : Nat) (hF : fromC M = 0)
    (hv : ∀ (w' : World) (M' : List (List UInt8)), St W w' (aTab p M' :: X) → ∃ inn, Lss inn w' (.slice A n c) L) (h : St W w (aTab p M :: X)) :
    Calls Try.prog 102 #[.pointer (some ⟨p, 0, none⟩), .int .i64 i, .slice A n c] w fun e w' => ∃ v, e = .returned (.tuple #[v, .int .i64 (proveG M i L).2.1]) ∧ St W w' (aDg v (proveG M i L).1 :: aTab p (proveG M i L).2.2 :: X) := by
  unfold proveG
  by_cases hi : 0 ≤ i ∧ i < (L.length : Int)
  · rw [if_pos hi]
    obtain ⟨k, rfl⟩ := Int.eq_ofNat_of_zero_le hi.1
    exact (St.prove102 L n hL hn40 hlen k M w A c (by omega) (fromC_le hF).1 hF hv h).mono fun e w' ⟨v, he, hS⟩ => ⟨v, he, hS⟩
  · rw [if_neg hi]
    exact (St.prove102_out n hn40 i M w A c (by omega) hF h).mono fun e w' ⟨he, hS⟩ => ⟨_, he, aDg.nil hS⟩
theorem St.proveG107 (L : List (List UInt8)) (n : Nat) (hL : L.length = n) (hn40 : n ≤ 1099511627776) (hlen : ∀ x ∈ L, x.length + 1 ≤ big) (i : Int) (M : List (List UInt8)) (w : World) (A : Option Addr) (c : Nat) (hM : M.length ≤ 1048576)
    (hv : ∀ (w' : World) (M' : List (List UInt8)), St W w' (aRef p M' :: X) → ∃ inn, Lss inn w' (.slice A n c) L) (h : St W w (aRef p M :: X)) :
    Calls Try.prog 107 #[.pointer (some ⟨p, 0, none⟩), .int .i64 i, .slice A n c] w fun e w' => ∃ v, e = .returned (.tuple #[v, .int .i64 (proveG M i L).2.1]) ∧ St W w' (aDg v (proveG M i L).1 :: aRef p (proveG M i L).2.2 :: X) := by
  unfold proveG
  by_cases hi : 0 ≤ i ∧ i < (L.length : Int)
  · rw [if_pos hi]
    obtain ⟨k, rfl⟩ := Int.eq_ofNat_of_zero_le hi.1
    exact (St.prove107 n L hL hn40 hlen k M w A c (by omega) hM hv h).mono fun e w' ⟨v, he, hS⟩ => ⟨v, he, hS⟩
  · rw [if_neg hi]
    exact (St.prove107_out n hn40 i M w A c (by omega) h).mono fun e w' ⟨he, hS⟩ => ⟨_, he, aDg.nil hS⟩
end
theorem rootF_from : ∀ (n : Nat) (L : List (List UInt8)), L.length = n → ∀ M, fromC M = 0 → fromC (rootF M L).2 = 0 := by
  intro n
  induction n using Nat.strongRecOn with
  | ind n ih =>
    intro L hL M h
    by_cases h2 : 2 ≤ L.length
    · have hb := splitN_bd h2
      rw [rootF_two h2]
      exact fromC_sum (ih _ (by simp; omega) _ rfl _ (ih _ (by simp; omega) _ rfl M h)) _
    · match L, h2 with
      | [], _ => rw [rootF_nil]; exact fromC_sum h _
      | [x], _ => rw [rootF_one]; exact fromC_sum h _
      | x :: y :: L, h2 => exact absurd (by simp) h2
end Go.Proofs.Ythgpkbhilkdckaa

/- Merkle's laws in plain Lean: what is proved is taken, what is taken stands there, unlike lists have unlike digests. -/
namespace Go.Proofs.Ythgpkbhilkdckaa
set_option linter.unusedVariables false

theorem enc_inj : ∀ (a b : Nat) (r s : List UInt8), enc a ++ r = enc b ++ s → a = b ∧ r = s := by
  intro a
  induction a using Nat.strongRecOn with
  | ind a ih =>
    intro b r s h
    have h8 : ∀ n, n < 256 → (UInt8.ofNat n).toNat = n := fun n hn => by simp; omega
    by_cases ha : a < 128
    · by_cases hb : b < 128
      · rw [enc_lt ha, enc_lt hb] at h
        simp only [List.cons_append, List.nil_append, List.cons.injEq] at h
        have := congrArg UInt8.toNat h.1
        rw [h8 _ (by omega), h8 _ (by omega)] at this
        exact ⟨this, h.2⟩
      · rw [enc_lt ha, enc_ge hb] at h
        simp only [List.cons_append, List.nil_append, List.cons.injEq] at h
        have := congrArg UInt8.toNat h.1
        rw [h8 _ (by omega), h8 _ (by omega)] at this
        omega
    · by_cases hb : b < 128
      · rw [enc_ge ha, enc_lt hb] at h
        simp only [List.cons_append, List.nil_append, List.cons.injEq] at h
        have := congrArg UInt8.toNat h.1
        rw [h8 _ (by omega), h8 _ (by omega)] at this
        omega
      · rw [enc_ge ha, enc_ge hb] at h
        simp only [List.cons_append, List.cons.injEq] at h
        have h1 := congrArg UInt8.toNat h.1
        rw [h8 _ (by omega), h8 _ (by omega)] at h1
        have h2 := ih (a / 128) (by omega) _ _ _ h.2
        exact ⟨by omega, h2.2⟩
theorem ndB_inj {a b c d : Int} (h : ndB a b = ndB c d) (ha : 0 ≤ a) (hb : 0 ≤ b) (hc : 0 ≤ c) (hd : 0 ≤ d) : a = c ∧ b = d := by
  unfold ndB at h
  rw [List.append_assoc, List.append_assoc] at h
  have h2 := enc_inj _ _ _ _ (List.append_cancel_left h)
  have h3 := enc_inj b.toNat d.toNat [] [] (by rw [List.append_nil, List.append_nil]; exact h2.2)
  omega
theorem lkN_nn (M : List (List UInt8)) (b : List UInt8) : 0 ≤ lkN M b := by unfold lkN; omega
theorem lkN_mem {M : List (List UInt8)} {b : List UInt8} (h : b ∈ M) : 0 < lkN M b ∧ M[(lkN M b).toNat - 1]? = some b := by
  unfold lkN
  cases hl : look b M 0 with
  | none => exact absurd h (look_none.1 hl)
  | some d =>
    have := look_some hl
    simp only [Option.getD_some]
    exact ⟨by omega, by simpa using this.2.2⟩
theorem lkN_not {M : List (List UInt8)} {b : List UInt8} (h : b ∉ M) : lkN M b = 0 := by
  unfold lkN
  rw [look_none.2 h]; rfl
theorem lkN_inj {M : List (List UInt8)} {b c : List UInt8} (h : b ∈ M) (e : lkN M b = lkN M c) : b = c := by
  have h1 := lkN_mem h
  by_cases hc : c ∈ M
  · have h2 := lkN_mem hc
    rw [← e, h1.2] at h2
    exact Option.some.inj h2.2
  · rw [lkN_not hc] at e; omega
theorem look_app {b : List UInt8} : ∀ (M N : List (List UInt8)) (i : Nat), b ∈ M → look b (M ++ N) i = look b M i
  | [], N, i, h => by cases h
  | x :: M, N, i, h => by
    by_cases e : x = b
    · simp [look, e]
    · rw [List.cons_append, look, if_neg e, look, if_neg e]
      exact look_app M N (i + 1) (by rcases List.mem_cons.1 h with h | h; exact absurd h.symm e; exact h)
theorem lkN_app {M : List (List UInt8)} {b : List UInt8} (N : List (List UInt8)) (h : b ∈ M) : lkN (M ++ N) b = lkN M b := by
  unfold lkN; rw [look_app M N 0 h]
theorem sum_same {M : List (List UInt8)} {b : List UInt8} (h : b ∈ M) : sumN M b = lkN M b ∧ sumM M b = M := by
  unfold sumN sumM; rw [if_pos h, if_pos h]; exact ⟨rfl, rfl⟩
theorem sum_grow {M : List (List UInt8)} (b : List UInt8) (h : M.length < 1048576) : ∃ N, sumM M b = M ++ N ∧ N.length ≤ 1 ∧ b ∈ sumM M b ∧ sumN M b = lkN (sumM M b) b := by
  by_cases hm : b ∈ M
  · have := sum_same hm
    exact ⟨[], by simp [this.2], by simp, by rw [this.2]; exact hm, by rw [this.1, this.2]⟩
  · refine ⟨[b], ?_, by simp, ?_, ?_⟩
    · unfold sumM; rw [if_neg hm, if_neg (by omega)]
    · unfold sumM; rw [if_neg hm, if_neg (by omega)]; simp
    · unfold sumN sumM lkN
      rw [if_neg hm, if_neg (by omega), if_neg hm, if_neg (by omega)]
      rw [look_at (M := M ++ [b]) (q := M.length) (by simpa using hm) (by simp) 0]
      simp

/-- the bytes whose number a list's digest is -/
def tipB (M : List (List UInt8)) (L : List (List UInt8)) : List UInt8 :=
  if h : 2 ≤ L.length then ndB (lkN M (tipB M (L.take (splitN L.length)))) (lkN M (tipB M (L.drop (splitN L.length))))
  else match L with
    | [] => [2]
    | x :: _ => [0] ++ x
termination_by L.length
decreasing_by
  · have := splitN_bd h; simp; omega
  · have := splitN_bd h; simp; omega
theorem tipB_two {M L : List (List UInt8)} (h : 2 ≤ L.length) : tipB M L = ndB (lkN M (tipB M (L.take (splitN L.length)))) (lkN M (tipB M (L.drop (splitN L.length)))) := by
  conv => lhs; rw [tipB]
  rw [dif_pos h]
theorem tipB_nil (M : List (List UInt8)) : tipB M [] = [2] := by rw [tipB]; simp
theorem tipB_one (M : List (List UInt8)) (x : List UInt8) : tipB M [x] = [0] ++ x := by rw [tipB]; simp
/-- all that a list's digest asks for is there -/
inductive Known (M : List (List UInt8)) : List (List UInt8) → Prop
  | leaf {L : List (List UInt8)} : L.length < 2 → tipB M L ∈ M → Known M L
  | two {L : List (List UInt8)} : 2 ≤ L.length → tipB M L ∈ M → Known M (L.take (splitN L.length)) → Known M (L.drop (splitN L.length)) → Known M L
theorem Known.mem {M L : List (List UInt8)} (h : Known M L) : tipB M L ∈ M := by cases h <;> assumption
theorem Known.parts {M L : List (List UInt8)} (h : Known M L) (h2 : 2 ≤ L.length) : Known M (L.take (splitN L.length)) ∧ Known M (L.drop (splitN L.length)) := by
  cases h with
  | leaf h _ => omega
  | two _ _ a b => exact ⟨a, b⟩
theorem tipB_small {M N L : List (List UInt8)} (h : L.length < 2) : tipB M L = tipB N L := by
  match L, h with
  | [], _ => rw [tipB_nil, tipB_nil]
  | [x], _ => rw [tipB_one, tipB_one]
theorem Known.app {M L : List (List UInt8)} (h : Known M L) (N : List (List UInt8)) : Known (M ++ N) L ∧ tipB (M ++ N) L = tipB M L := by
  induction h with
  | leaf h1 h2 =>
    have e := tipB_small (M := M ++ N) (N := M) h1
    exact ⟨.leaf h1 (by rw [e]; exact List.mem_append.2 (.inl h2)), e⟩
  | @two L h1 h2 ha hb iha ihb =>
    have e : tipB (M ++ N) L = tipB M L := by
      rw [tipB_two h1, iha.2, ihb.2, lkN_app N ha.mem, lkN_app N hb.mem, ← tipB_two h1]
    exact ⟨.two h1 (by rw [e]; exact List.mem_append.2 (.inl h2)) iha.1 ihb.1, e⟩
theorem root_known : ∀ (n : Nat) (L : List (List UInt8)), L.length = n → ∀ M : List (List UInt8), M.length + 2 * n + 1 ≤ 1048576 →
    ∃ N, (rootF M L).2 = M ++ N ∧ N.length + 1 ≤ 2 * max 1 n ∧ Known (rootF M L).2 L ∧ (rootF M L).1 = lkN (rootF M L).2 (tipB (rootF M L).2 L) := by
  intro n
  induction n using Nat.strongRecOn with
  | ind n ih =>
    intro L hL M hM
    by_cases h2 : 2 ≤ L.length
    · have hb := splitN_bd h2
      obtain ⟨N1, e1, l1, k1, r1⟩ := ih (splitN L.length) (by omega) (L.take (splitN L.length)) (by simp; omega) M (by omega)
      obtain ⟨N2, e2, l2, k2, r2⟩ := ih (L.length - splitN L.length) (by omega) (L.drop (splitN L.length)) (by simp) (rootF M (L.take (splitN L.length))).2 (by rw [e1, List.length_append]; omega)
      rw [rootF_two h2]
      rw [e2] at k2 r2
      generalize rootF (rootF M (L.take (splitN L.length))).2 (L.drop (splitN L.length)) = R2 at *
      generalize rootF M (L.take (splitN L.length)) = R1 at *
      obtain ⟨d1, M1⟩ := R1
      obtain ⟨d2, M2⟩ := R2
      simp only at *
      subst e1
      subst e2
      obtain ⟨N3, e3, l3, m3, r3⟩ := sum_grow (M := M ++ N1 ++ N2) (ndB d1 d2) (by simp only [List.length_append]; omega)
      have k1' := k1.app N2
      have t1 : d1 = lkN (M ++ N1 ++ N2) (tipB (M ++ N1 ++ N2) (L.take (splitN L.length))) := by rw [k1'.2, lkN_app N2 k1.mem]; exact r1
      have k1'' := k1'.1.app N3
      have k2'' := k2.app N3
      have e : tipB (M ++ N1 ++ N2 ++ N3) L = ndB d1 d2 := by
        rw [tipB_two h2, k1''.2, k2''.2, lkN_app N3 k1'.1.mem, lkN_app N3 k2.mem, ← t1, ← r2]
      rw [e3] at m3 r3 ⊢
      refine ⟨N1 ++ (N2 ++ N3), by simp only [List.append_assoc], by simp only [List.length_append]; omega, .two h2 (by rw [e]; exact m3) k1''.1 k2''.1, by rw [e]; exact r3⟩
    · have hs : ∀ b, tipB M L = b → rootF M L = (sumN M b, sumM M b) := by
        intro b hb
        subst hb
        match L, h2 with
        | [], _ => rw [rootF_nil, tipB_nil]
        | [x], _ => rw [rootF_one, tipB_one]
        | x :: y :: r, h2 => exact absurd (by simp) h2
      rw [hs _ rfl]
      obtain ⟨N3, e3, l3, m3, r3⟩ := sum_grow (M := M) (tipB M L) (by omega)
      have e : tipB (sumM M (tipB M L)) L = tipB M L := tipB_small (by omega)
      exact ⟨N3, e3, by omega, .leaf (by omega) (by simp only [e]; exact m3), by simp only [e]; exact r3⟩
theorem root_same {M : List (List UInt8)} : ∀ {L : List (List UInt8)}, Known M L → rootF M L = (lkN M (tipB M L), M) := by
  intro L h
  induction h with
  | @leaf L h1 h2 =>
    match L, h1, h2 with
    | [], _, h2 => rw [tipB_nil] at h2 ⊢; have := sum_same h2; rw [rootF_nil, this.1, this.2]
    | [x], _, h2 => rw [tipB_one] at h2 ⊢; have := sum_same h2; rw [rootF_one, this.1, this.2]
  | two h1 h2 ha hb iha ihb =>
    rw [rootF_two h1, iha]
    simp only
    rw [ihb]
    simp only
    rw [tipB_two h1] at h2 ⊢
    have := sum_same h2
    rw [this.1, this.2]
theorem known_take {M L : List (List UInt8)} (h : Known M L) (h2 : 2 ≤ L.length) : (rootF M (L.take (splitN L.length))) = (lkN M (tipB M (L.take (splitN L.length))), M) := root_same (h.parts h2).1
theorem lk2_mem {M : List (List UInt8)} {b : List UInt8} (h : b ∈ M) : lk2 M b = (lkN M b, true) := by
  unfold lk2; rw [lkB_iff, decide_eq_true h]
theorem prove_known {M : List (List UInt8)} : ∀ {L : List (List UInt8)}, Known M L → ∀ (i : Nat) (b : List UInt8), L[i]? = some b → ∃ ps, proveF M i L = (ps, M) ∧ ps.length = lenW i L.length ∧ comesF M b i L.length ps = (lkN M (tipB M L), true) := by
  intro L h
  induction h with
  | @leaf L h1 h2 =>
    intro i b hi
    match L, h1, h2, hi with
    | [], _, _, hi => simp at hi
    | [x], _, h2, hi =>
      have : i = 0 := by
        rcases i with _ | i
        · rfl
        · simp at hi
      subst this
      simp at hi
      subst hi
      refine ⟨[], proveF_one (by simp), by rw [lenW_one (by simp)]; rfl, ?_⟩
      rw [tipB_one] at h2 ⊢
      rw [comesF_one (by simp)]
      exact lk2_mem h2
  | @two L h1 h2 ha hb iha ihb =>
    intro i b hi
    have hbd := splitN_bd h1
    have hm := h2
    rw [tipB_two h1] at hm
    have hil : i < L.length := by
      rcases Nat.lt_or_ge i L.length with h | h
      · exact h
      · rw [List.getElem?_eq_none h] at hi; cases hi
    by_cases hk : i < splitN L.length
    · obtain ⟨ps, e, hl, hc⟩ := iha i b (by rw [List.getElem?_take_of_lt hk]; exact hi)
      rw [List.length_take, Nat.min_eq_left (by omega)] at hc hl
      refine ⟨ps ++ [lkN M (tipB M (L.drop (splitN L.length)))], ?_, ?_, ?_⟩
      · rw [proveF_lt h1 hk, e]
        simp only
        rw [root_same hb]
      · rw [lenW_lt h1 hk]; simp [hl]
      · rw [comesF_lt h1 hk]
        simp only [List.length_append, List.length_cons, List.length_nil, Nat.zero_add, Nat.add_sub_cancel, List.take_left']
        rw [hc, if_pos rfl]
        simp only [List.getD_eq_getElem?_getD, List.getElem?_append_right (Nat.le_refl _), Nat.sub_self, List.getElem?_cons_zero, Option.getD_some]
        rw [lk2_mem hm, ← tipB_two h1]
    · obtain ⟨ps, e, hl, hc⟩ := ihb (i - splitN L.length) b (by rw [List.getElem?_drop, show splitN L.length + (i - splitN L.length) = i by omega]; exact hi)
      rw [List.length_drop] at hc hl
      refine ⟨ps ++ [lkN M (tipB M (L.take (splitN L.length)))], ?_, ?_, ?_⟩
      · rw [proveF_ge h1 hk, e]
        simp only
        rw [root_same ha]
      · rw [lenW_ge h1 hk]; simp [hl]
      · rw [comesF_ge h1 hk]
        simp only [List.length_append, List.length_cons, List.length_nil, Nat.zero_add, Nat.add_sub_cancel, List.take_left']
        rw [hc, if_pos rfl]
        simp only [List.getD_eq_getElem?_getD, List.getElem?_append_right (Nat.le_refl _), Nat.sub_self, List.getElem?_cons_zero, Option.getD_some]
        rw [lk2_mem hm, ← tipB_two h1]
theorem lk2_eq {M : List (List UInt8)} {b : List UInt8} {c : List UInt8} (h : c ∈ M) (e : lk2 M b = (lkN M c, true)) : b = c := by
  unfold lk2 at e
  simp only [Prod.mk.injEq] at e
  exact (lkN_inj h e.1.symm).symm
theorem comesF_nn (M : List (List UInt8)) (b : List UInt8) (i n : Nat) (xs : List Int) : 0 ≤ (comesF M b i n xs).1 := by
  have h2 : ∀ c, 0 ≤ (lk2 M c).1 := fun c => lkN_nn M c
  by_cases h : 2 ≤ n
  · by_cases hi : i < splitN n
    · rw [comesF_lt h hi]; split
      · exact h2 _
      · exact Int.le_refl _
    · rw [comesF_ge h hi]; split
      · exact h2 _
      · exact Int.le_refl _
  · rw [comesF_one h]; exact h2 _
theorem ndB_left {a b c d : Int} (h : ndB a b = ndB c d) (ha : 0 ≤ a) (hc : 0 ≤ c) : a = c := by
  unfold ndB at h
  rw [List.append_assoc, List.append_assoc] at h
  have h2 := enc_inj _ _ _ _ (List.append_cancel_left h)
  omega
theorem ndB_right {a b c d : Int} (h : ndB a b = ndB c d) (ha : 0 ≤ b) (hc : 0 ≤ d) : b = d := by
  unfold ndB at h
  rw [List.append_assoc, List.append_assoc] at h
  have h2 := enc_inj _ _ _ _ (List.append_cancel_left h)
  have h3 := enc_inj b.toNat d.toNat [] [] (by rw [List.append_nil, List.append_nil]; exact h2.2)
  omega
theorem comes_sound {M : List (List UInt8)} : ∀ {L : List (List UInt8)}, Known M L → ∀ (i : Nat), i < L.length → ∀ (b : List UInt8) (xs : List Int), comesF M b i L.length xs = (lkN M (tipB M L), true) → L[i]? = some b := by
  intro L h
  induction h with
  | @leaf L h1 h2 =>
    intro i hi b xs hc
    match L, h1, h2, hi, hc with
    | [x], _, h2, hi, hc =>
      have : i = 0 := by simpa using hi
      subst this
      rw [tipB_one] at h2 hc
      rw [comesF_one (by simp)] at hc
      have := lk2_eq h2 hc
      simp at this
      simp [this]
  | @two L h1 h2 ha hb iha ihb =>
    intro i hi b xs hc
    have hbd := splitN_bd h1
    rw [tipB_two h1] at h2 hc
    by_cases hk : i < splitN L.length
    · rw [comesF_lt h1 hk] at hc
      split at hc
      · rename_i ht
        have h3 := ndB_left (lk2_eq h2 hc) (comesF_nn _ _ _ _ _) (lkN_nn _ _)
        have := iha i (by simp; omega) b (xs.take (xs.length - 1)) (by rw [List.length_take, Nat.min_eq_left (by omega)]; exact Prod.ext h3 ht)
        rw [List.getElem?_take_of_lt hk] at this
        exact this
      · cases (Prod.mk.inj hc).2
    · rw [comesF_ge h1 hk] at hc
      split at hc
      · rename_i ht
        have h3 := ndB_right (lk2_eq h2 hc) (comesF_nn _ _ _ _ _) (lkN_nn _ _)
        have := ihb (i - splitN L.length) (by simp; omega) b (xs.take (xs.length - 1)) (by rw [List.length_drop]; exact Prod.ext h3 ht)
        rw [List.getElem?_drop, show splitN L.length + (i - splitN L.length) = i by omega] at this
        exact this
      · cases (Prod.mk.inj hc).2
theorem tip_apart {M : List (List UInt8)} : ∀ {a : List (List UInt8)}, Known M a → ∀ {b : List (List UInt8)}, Known M b → lkN M (tipB M a) = lkN M (tipB M b) → a = b := by
  intro a h
  induction h with
  | @leaf a h1 h2 =>
    intro b hb e
    have e := lkN_inj h2 e
    match a, h1, e with
    | [], _, e =>
      rw [tipB_nil] at e
      cases hb with
      | leaf k1 k2 =>
        match b, k1, e with
        | [], _, _ => rfl
        | [y], _, e => rw [tipB_one] at e; simp at e
      | two k1 _ _ _ => rw [tipB_two k1] at e; simp [ndB] at e
    | [x], _, e =>
      rw [tipB_one] at e
      cases hb with
      | leaf k1 k2 =>
        match b, k1, e with
        | [], _, e => rw [tipB_nil] at e; simp at e
        | [y], _, e => rw [tipB_one] at e; simpa using e
      | two k1 _ _ _ => rw [tipB_two k1] at e; simp [ndB] at e
  | @two a h1 h2 ha hb iha ihb =>
    intro b hb' e
    have e := lkN_inj h2 e
    rw [tipB_two h1] at e
    cases hb' with
    | leaf k1 k2 =>
      match b, k1, e with
      | [], _, e => rw [tipB_nil] at e; simp [ndB] at e
      | [y], _, e => rw [tipB_one] at e; simp [ndB] at e
    | two k1 _ k3 k4 =>
      rw [tipB_two k1] at e
      have h3 := ndB_inj e (lkN_nn _ _) (lkN_nn _ _) (lkN_nn _ _) (lkN_nn _ _)
      have e1 := iha k3 h3.1
      have e2 := ihb k4 h3.2
      rw [← List.take_append_drop (splitN a.length) a, e1, e2, List.take_append_drop]
end Go.Proofs.Ythgpkbhilkdckaa

/- Merkle's laws: the leaves cut to forty; slices.EqualFunc with bytes.Equal; MerkleApart's walk. -/
namespace Go.Proofs.Ythgpkbhilkdckaa
open Go.RowKit Go.Deep
set_option linter.unusedVariables false

theorem St.drewN {W w : World} {L : List Asn} (h : St W w L) (n : Nat) : St W (w.drewN n) L := h.later (show B w (w.drewN n) from ⟨rfl, rfl, rfl, Nat.le_refl _, fun _ _ => rfl⟩)
theorem bulk_mem {L : List (List UInt8)} {x : List UInt8} (h : x ∈ L) : x.length + 1 ≤ bulkL L := by
  obtain ⟨i, hi, e⟩ := List.mem_iff_getElem.1 h
  exact bulk_at (i := i) (by rw [List.getElem?_eq_getElem hi, e])
/-- leaves[:min(len(leaves), 40)] -/
theorem leaves_cut {inn : Nat → Prop} {W : World} {v : Value} {L0 : List (List UInt8)} (h : Lss inn W v L0) (hb : bulkL L0 ≤ 1048576) :
    ∃ (A : Option Addr) (m c n : Nat), v = .slice A m c ∧ Lss inn W (.slice A n c) (L0.take 40) ∧ (L0.take 40).length = n ∧ n ≤ 40 ∧ (∀ x ∈ L0.take 40, x.length + 1 ≤ big) ∧
    ((m : Int) ≤ 40 ∧ n = m ∨ ¬ (m : Int) ≤ 40 ∧ n = 40) ∧
    (∀ w' : World, (Instr.slice 46 (.slice A m c) none (some (.int .i64 (n : Int))) none).run Try.prog w' = .ok (.slice A n c) w') ∧
    (∀ w' : World, (Instr.sliceAt 46 (.slice A m c) none (some (.int .i64 (n : Int))) none).run Try.prog w' = .ok (.slice A n c) w') := by
  obtain ⟨A, c, rfl, _, hc1, _, _⟩ := id h
  have hr := fun w' => Lss.runTo (A := A) (n := L0.length) (c := c) (k := min 40 L0.length) (Nat.min_le_right _ _) hc1 w'
  have ht := h.to (min 40 L0.length) (Nat.min_le_right _ _)
  have e : L0.take (min 40 L0.length) = L0.take 40 := by rw [← List.take_take, List.take_length]
  rw [e] at ht
  refine ⟨A, L0.length, c, min 40 L0.length, rfl, ht, by simp, Nat.min_le_left _ _, fun x hx => ?_, by omega, fun w' => (hr w').1, fun w' => (hr w').2⟩
  have := bulk_mem (List.mem_of_mem_take hx)
  unfold big; omega
theorem Lss.nil (inn : Nat → Prop) (w : World) : Lss inn w (.slice none 0 0) [] := ⟨none, 0, rfl, fun _ => ⟨rfl, rfl⟩, Nat.le_refl _, by unfold maxLen; omega, fun h => by simp at h⟩

set_option maxRecDepth 20000 in
set_option maxHeartbeats 2000000 in
theorem equalFunc106 {inn inn' : Nat → Prop} {w : World} {v u : Value} {s t : List (List UInt8)} (h : Lss inn w v s) (k : Lss inn' w u t) :
    Calls Try.prog 106 #[v, u, .func (.func 68) #[] #[]] w fun e w' => e = .returned (.bool (decide (s = t))) ∧ w = w' := by
  obtain ⟨A, c, rfl, _, hc1, hm1, hr⟩ := h
  obtain ⟨A', c', rfl, _, _, _, hr'⟩ := k
  have HR := Lib.hid hr
  have HR' := Lib.hid hr'
  have hs : s.length ≤ 9223372036854775807 := by unfold maxLen at hm1; omega
  clear hr hr' hc1 hm1
  by_cases hl : s.length = t.length
  · have q1 : ((s.length : Int) != (t.length : Int)) = false := by simp; omega
    rw [← hl]
    have HL := Lib.hid hl
    clear hl
    go_enter Try.func106, Try.ntmps106
    go_wp2_with fail
    go_loop [17] (fun i => ∃ q : Nat, q ≤ s.length ∧ i = .int .i64 q ∧ Hid (∀ j, j < q → s[j]? = t[j]?)) (fun i => s.length - (intOf i).toNat)
    case atStart => exact ⟨0, Nat.zero_le _, rfl, fun j h => by omega⟩
    case round =>
      obtain ⟨q, hq, rfl, HP⟩ := hrel
      by_cases hlt : q < s.length
      · obtain ⟨b, off, rfl, hb, _, hc⟩ := HR.out (by omega)
        obtain ⟨b', off', rfl, hb', _, hc'⟩ := HR'.out (by have := HL.out; omega)
        have hq' : q < t.length := by have := HL.out; omega
        obtain ⟨u1, k1, k2, _⟩ := hc q _ (List.getElem?_eq_getElem hlt)
        obtain ⟨u2, k3, k4, _⟩ := hc' q _ (List.getElem?_eq_getElem hq')
        have K2 := Lib.hid k2
        have K4 := Lib.hid k4
        have HS := Lib.hid (List.getElem?_eq_getElem hlt)
        have HT := Lib.hid (List.getElem?_eq_getElem hq')
        have hqi : (q : Int) < s.length := by omega
        generalize s[q] = x at *
        generalize t[q] = y at *
        clear hc hc' hq' k2 k4
        by_cases e1 : x = y
        · have E := Lib.hid e1
          have g1 : (x == y) = true := by simpa using e1
          clear e1
          go_wp2_with (first | (go_at_call 68; (with_reducible refine (equal68 K2.out K4.out).mono ?_); rintro e w9 ⟨rfl, rfl⟩))
          go_round
          case rel => exact ⟨q + 1, by omega, by go_num, fun j hj => by
            by_cases e : j = q
            · rw [e, HS.out, HT.out, E.out]
            · exact HP.out j (by omega)⟩
          case measure => simp [intOf]; omega
        · have g1 : (x == y) = false := by simpa using e1
          have E := Lib.hid (show decide (s = t) = false from decide_eq_false (fun e => e1 (by have h1 := HS.out; rw [e, HT.out] at h1; injection h1 with h1; rw [h1])))
          clear e1
          go_wp2_with (first | (go_at_call 68; (with_reducible refine (equal68 K2.out K4.out).mono ?_); rintro e w9 ⟨rfl, rfl⟩))
          go_ret
          exact ⟨retB E.out.symm, rfl⟩
      · have E := Lib.hid (show decide (s = t) = true from decide_eq_true (List.ext_getElem? fun j => by
          by_cases hj : j < q
          · exact HP.out j hj
          · rw [List.getElem?_eq_none (by omega), List.getElem?_eq_none (by have := HL.out; omega)]))
        have hqi : ¬ (q : Int) < s.length := by omega
        go_wp2_with fail
        go_ret
        exact ⟨retB E.out.symm, rfl⟩
  · have q1 : ((s.length : Int) != (t.length : Int)) = true := by simp; omega
    have E := Lib.hid (show decide (s = t) = false from decide_eq_false (fun e => hl (by rw [e])))
    clear hl
    go_enter Try.func106, Try.ntmps106
    go_wp2
    go_ret
    exact ⟨retB E.out.symm, rfl⟩

theorem apart_law (L L' : List (List UInt8)) (h : L.length ≤ 40) (h' : L'.length ≤ 40) : ((rootF [] L).1 == (rootF (rootF [] L).2 L').1) = decide (L = L') := by
  obtain ⟨N1, e1, l1, k1, r1⟩ := root_known _ L rfl [] (by simp; omega)
  obtain ⟨N2, e2, l2, k2, r2⟩ := root_known _ L' rfl (rootF [] L).2 (by rw [e1]; simp only [List.nil_append]; omega)
  have k := k1.app N2
  rw [← e2] at k
  have r : (rootF [] L).1 = lkN (rootF (rootF [] L).2 L').2 (tipB (rootF (rootF [] L).2 L').2 L) := by rw [k.2, e2, lkN_app N2 k1.mem]; exact r1
  rw [r, r2]
  by_cases e : L = L'
  · rw [decide_eq_true e, e]; simp
  · rw [decide_eq_false e, beq_eq_false_iff_ne]
    exact fun e' => e (tip_apart k.1 k2 e')

set_option maxRecDepth 20000 in
set_option maxHeartbeats 4000000 in
theorem apart_walk {W : World} {A A' : Option Addr} {c m n c' m' n' : Nat} {L L' : List (List UInt8)} (hu : Lss (fun g => g < W.heap.size) W (.slice A n c) L) (hL : L.length = n) (hn : n ≤ 40) (hlen : ∀ x ∈ L, x.length + 1 ≤ big)
    (hmn : (m : Int) ≤ 40 ∧ n = m ∨ ¬ (m : Int) ≤ 40 ∧ n = 40)
    (r1 : ∀ w' : World, (Instr.slice 46 (.slice A m c) none (some (.int .i64 (n : Int))) none).run Try.prog w' = .ok (.slice A n c) w')
    (r2 : ∀ w' : World, (Instr.sliceAt 46 (.slice A m c) none (some (.int .i64 (n : Int))) none).run Try.prog w' = .ok (.slice A n c) w')
    (hu' : Lss (fun g => g < W.heap.size) W (.slice A' n' c') L') (hL' : L'.length = n') (hn' : n' ≤ 40) (hlen' : ∀ x ∈ L', x.length + 1 ≤ big)
    (hmn' : (m' : Int) ≤ 40 ∧ n' = m' ∨ ¬ (m' : Int) ≤ 40 ∧ n' = 40)
    (r1' : ∀ w' : World, (Instr.slice 46 (.slice A' m' c') none (some (.int .i64 (n' : Int))) none).run Try.prog w' = .ok (.slice A' n' c') w')
    (r2' : ∀ w' : World, (Instr.sliceAt 46 (.slice A' m' c') none (some (.int .i64 (n' : Int))) none).run Try.prog w' = .ok (.slice A' n' c') w') :
    Calls Try.prog 21 #[.slice A m c, .slice A' m' c'] W fun e w' => e = .returned (.bool true) ∧ B W w' := by
  have HL := Lib.hid (live91 (St.nil W))
  have HT := Lib.hid (fun (w : World) (h : St W w []) => show Calls Try.prog 92 #[.slice none 0 0] w fun e w' => ∃ p r, e = .returned (.tuple #[.pointer (some ⟨p, 0, none⟩), .pointer (some ⟨r, 0, none⟩)]) ∧ St W w' [aTab p [], aRef r []] from tables92 (Lss.nil _ W) h)
  have HR := Lib.hid (fun (w : World) (p r : Nat) (h : St W w [aTab p [], aRef r []]) => St.root101 n L hL hlen [] w A c (by simp) (fun w' M' h' => ⟨_, hu.later h'.b⟩) h)
  have hM1 := (rootF_bd _ L rfl [] (by simp)).1
  have hE := apart_law L L' (by omega) (by omega)
  generalize rootF [] L = dT at *
  obtain ⟨d, T1⟩ := dT
  simp only at hM1 HR hE
  have HR' := Lib.hid (fun (w : World) (p r : Nat) (h : St W w [aTab p T1, aRef r []]) => St.root101 n' L' hL' hlen' T1 w A' c' hM1 (fun w' M' h' => ⟨_, hu'.later h'.b⟩) h)
  generalize rootF T1 L' = dU at *
  obtain ⟨d', T2⟩ := dU
  simp only at HR' hE
  have HU := Lib.hid hu
  have HU' := Lib.hid hu'
  have HE := Lib.hid hE
  clear hu hu' hlen hlen' hM1 hE hL hL' hn hn'
  have e40 : ((40 : Nat) : Int) = 40 := rfl
  rcases hmn with ⟨h40, rfl⟩ | ⟨h40, rfl⟩
  case' inr => rw [e40] at r1 r2
  all_goals
    rcases hmn' with ⟨h40', rfl⟩ | ⟨h40', rfl⟩
    case' inr => rw [e40] at r1' r2'
  all_goals
    clear e40
    go_enter Try.func21, Try.ntmps21
    go_wp2_with (first
      | (go_at_call 91; (with_reducible refine HL.out.mono ?_); rintro e w1 ⟨rfl, hS⟩; have H1 := Lib.hid hS; clear hS))
    go_quiet (fail)
    go_wp2_with (first
      | (go_at_call 92; (with_reducible refine (HT.out _ (H1.out.drewN _)).mono ?_); rintro e w2 ⟨p, r, rfl, hS⟩; have H2 := Lib.hid hS; clear hS)
      | (go_at_call 101; (with_reducible refine (HR.out _ _ _ H2.out).mono ?_); rintro e w3 ⟨rfl, hS⟩; have H3 := Lib.hid hS; clear hS)
      | (go_at_call 101; (with_reducible refine (HR'.out _ _ _ H3.out).mono ?_); rintro e w4 ⟨rfl, hS⟩; have H4 := Lib.hid hS; clear hS)
      | (go_at_call 106; (with_reducible refine (equalFunc106 (HU.out.later H4.out.b) (HU'.out.later H4.out.b)).mono ?_); rintro e w5 ⟨rfl, rfl⟩))
    go_ret
    exact ⟨by rw [HE.out]; simp, H4.out.b⟩
end Go.Proofs.Ythgpkbhilkdckaa
