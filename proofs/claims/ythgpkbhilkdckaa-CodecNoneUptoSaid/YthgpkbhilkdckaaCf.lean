/- The reader of codec: its place in memory; stuck, Fail, Err, Left, Done, Read. -/
import Derived.Test.YthgpkbhilkdckaaCe
namespace Go.Proofs.Ythgpkbhilkdckaa
open Go.RowKit
set_option linter.unusedVariables false

theorem Bs.ne_blk {w : World} {v : Value} {bs : List UInt8} {p : Nat} {t : TypeId} {cs : Array Value} (h : Bs w v bs) (hne : bs ≠ []) (hk : Blk w p t cs) (hc : ∀ (i : Nat) (x : Int), cs[i]? ≠ some (.int .u8 x)) : v.ownBlock ≠ some p := by
  obtain ⟨A, cap, rfl, _, _, hr⟩ := h.form
  have h0 : 0 < bs.length := List.length_pos_iff.2 hne
  obtain ⟨b, off, rfl, _, hx⟩ := hr h0
  intro e
  have : b = p := by simpa [Value.ownBlock] using e
  subst this
  have := hx 0 _ (List.getElem?_eq_getElem h0)
  rw [hk.cell] at this
  exact hc _ _ this
/-- the reader: the bytes ahead, the first error -/
def RdAt (own : Nat → Prop) (w : World) (p : Nat) (bs : List UInt8) (e : Int) : Prop :=
  ∃ (A : Option Addr) (c : Nat) (b0 : List UInt8), own p ∧ Blk w p 94 #[.slice A b0.length c, .int .i64 e, .bool true] ∧ Bs w (.slice A b0.length c) b0 ∧ (∀ g, (Value.slice A b0.length c).ownBlock = some g → b0 ≠ [] → own g) ∧ (e = 0 → b0 = bs) ∧ (e ≠ 0 → bs = [])
def aRd (p : Nat) (bs : List UInt8) (e : Int) : Asn where
  at_ own w := RdAt own w p bs e
  ext := fun ⟨A, c, b0, h1, h2, h3, h4, h5, h6⟩ hx hd => ⟨A, c, b0, h1, h2.ext hx (hd _ h1), h3.ext hx (fun g hg hne => hd g (h4 g hg hne)), h4, h5, h6⟩
  bound := fun ⟨A, c, b0, h1, h2, h3, h4, h5, h6⟩ => ⟨A, c, b0, ⟨h1, h2.lt⟩, h2, h3, fun g hg hne => ⟨h4 g hg hne, h3.lt hne hg⟩, h5, h6⟩
theorem rd_nou8 (A : Option Addr) (n c : Nat) (e : Int) (i : Nat) (x : Int) : (#[Value.slice A n c, .int .i64 e, .bool true] : Array Value)[i]? ≠ some (.int .u8 x) := by
  rcases i with _ | _ | _ | i <;> simp
section
variable {W w : World} {p : Nat} {bs : List UInt8} {e : Int} {L : List Asn}
theorem stuck122 {vb : Value} (h : Blk w p 94 #[vb, .int .i64 e, .bool true]) (b : Bool) (hb : (e != 0) = b) : Calls Try.prog 122 #[.pointer (some ⟨p, 0, none⟩)] w fun e' w' => e' = .returned (.bool b) ∧ w = w' := by
  have c1 := h.cell 1
  have c2 := h.cell 2
  simp at c1 c2
  clear h
  go_enter Try.func122, Try.ntmps122
  go_wp2
  go_ret
  exact ⟨by simp, rfl⟩
theorem stuck_b (e : Int) : ∃ b, (e != 0) = b := ⟨_, rfl⟩
/-- the error and the bytes behind 'Fail k' -/
def failE (e k : Int) : Int := if e = 0 then k else e
def failB (bs : List UInt8) (e k : Int) : List UInt8 := if e = 0 ∧ k = 0 then bs else []
set_option maxHeartbeats 400000 in
theorem St.fail84 (h : St W w (aRd p bs e :: L)) (k : Int) : Calls Try.prog 84 #[.pointer (some ⟨p, 0, none⟩), .int .i64 k] w fun e' w' => e' = .returned (.tuple #[]) ∧ St W w' (aRd p (failB bs e k) (failE e k) :: L) := by
  obtain ⟨own, hR, ho, hback⟩ := h.focus
  obtain ⟨A, c, b0, h1, h2, h3, h4, h5, h6⟩ := id hR
  by_cases he : e = 0
  · subst he
    obtain rfl := h5 rfl
    have HS := Lib.hid (stuck122 h2 false (by simp))
    have c1 := h2.cell 1
    have f1 := h2.frozen 1
    simp at c1
    have hx : Ext own w (w.setCell ⟨p, 1, none⟩ (.int .i64 k)) := (Ext.refl own w).set (p := ⟨p, 1, none⟩) (fun _ => h1) _
    have E := Lib.hid (show St W (w.setCell ⟨p, 1, none⟩ (.int .i64 k)) (aRd p (failB b0 0 k) (failE 0 k) :: L) from by
      refine hback _ (aRd p (failB b0 0 k) (failE 0 k)) hx ?_
      have hp : Ext (fun g => g = p) w (w.setCell ⟨p, 1, none⟩ (.int .i64 k)) := (Ext.refl (fun g => g = p) w).set (p := ⟨p, 1, none⟩) (fun _ => rfl) _
      refine ⟨A, c, b0, .inl h1, by simpa [failE] using h2.set_ 1 (.int .i64 k), h3.ext hp (fun g hg hne e => ?_), fun g hg hne => .inl (h4 g hg hne), fun e0 => ?_, fun e0 => ?_⟩
      · subst e; exact h3.ne_blk hne h2 (rd_nou8 _ _ _ _) hg
      · simp [failE] at e0; simp [failB, e0]
      · simp [failE] at e0; simp [failB, e0])
    clear hR h1 h2 h3 h4 h5 h6 ho hback hx h
    go_enter Try.func84, Try.ntmps84
    go_wp2_with (first | (go_at_call 122; (with_reducible refine HS.out.mono ?_); rintro e wn ⟨rfl, rfl⟩))
    go_end0
    exact ⟨rfl, E.out⟩
  · obtain rfl := h6 he
    have HS := Lib.hid (stuck122 h2 true (by simp [he]))
    have E := Lib.hid (show St W w (aRd p (failB [] e k) (failE e k) :: L) from by rw [show failB [] e k = [] by simp [failB], show failE e k = e by simp [failE, he]]; exact h)
    clear hR h1 h2 h3 h4 h5 h6 ho hback h he
    go_enter Try.func84, Try.ntmps84
    go_wp2_with (first | (go_at_call 122; (with_reducible refine HS.out.mono ?_); rintro e wn ⟨rfl, rfl⟩))
    go_end0
    exact ⟨rfl, E.out⟩
theorem St.err80 (h : St W w (aRd p bs e :: L)) : Calls Try.prog 80 #[.pointer (some ⟨p, 0, none⟩)] w fun e' w' => e' = .returned (.int .i64 e) ∧ w = w' := by
  obtain ⟨own, ⟨A, c, b0, h1, h2, h3, h4, h5, h6⟩, ho⟩ := h.get
  have c1 := h2.cell 1
  have c2 := h2.cell 2
  simp at c1 c2
  clear h h2 h3 h4 h5 h6
  go_enter Try.func80, Try.ntmps80
  go_wp2
  go_ret
  exact ⟨rfl, rfl⟩
theorem St.left81 (h : St W w (aRd p bs e :: L)) : Calls Try.prog 81 #[.pointer (some ⟨p, 0, none⟩)] w fun e' w' => e' = .returned (.int .i64 (bs.length : Int)) ∧ w = w' := by
  obtain ⟨own, ⟨A, c, b0, h1, h2, h3, h4, h5, h6⟩, ho⟩ := h.get
  by_cases he : e = 0
  · subst he
    obtain rfl := h5 rfl
    have HS := Lib.hid (stuck122 h2 false (by simp))
    have c1 := h2.cell 0
    simp at c1
    clear h h2 h3 h4 h5 h6
    go_enter Try.func81, Try.ntmps81
    go_wp2_with (first | (go_at_call 122; (with_reducible refine HS.out.mono ?_); rintro e wn ⟨rfl, rfl⟩))
    go_ret
    exact ⟨rfl, rfl⟩
  · obtain rfl := h6 he
    have HS := Lib.hid (stuck122 h2 true (by simp [he]))
    clear h h2 h3 h4 h5 h6 he
    go_enter Try.func81, Try.ntmps81
    go_wp2_with (first | (go_at_call 122; (with_reducible refine HS.out.mono ?_); rintro e wn ⟨rfl, rfl⟩))
    go_ret
    exact ⟨rfl, rfl⟩
def doneE (bs : List UInt8) (e : Int) : Int := if e ≠ 0 then e else if bs = [] then 0 else 12
theorem St.done82 (h : St W w (aRd p bs e :: L)) : Calls Try.prog 82 #[.pointer (some ⟨p, 0, none⟩)] w fun e' w' => e' = .returned (.int .i64 (doneE bs e)) ∧ w = w' := by
  have HS := Lib.hid h.err80
  obtain ⟨own, ⟨A, c, b0, h1, h2, h3, h4, h5, h6⟩, ho⟩ := h.get
  by_cases he : e = 0
  · subst he
    obtain rfl := h5 rfl
    have c1 := h2.cell 0
    simp at c1
    by_cases hb : b0 = []
    · subst hb
      have E := Lib.hid (show (0 : Int) = doneE [] 0 by simp [doneE])
      clear h h2 h3 h4 h5 h6
      go_enter Try.func82, Try.ntmps82
      go_wp2_with (first | (go_at_call 80; (with_reducible refine HS.out.mono ?_); rintro e wn ⟨rfl, rfl⟩))
      go_ret
      exact ⟨retI E.out, rfl⟩
    · have E := Lib.hid (show (12 : Int) = doneE b0 0 by simp [doneE, hb])
      have hl : (0 : Int) < b0.length := by have := List.length_pos_iff.2 hb; omega
      clear h h2 h3 h4 h5 h6 hb
      go_enter Try.func82, Try.ntmps82
      go_wp2_with (first | (go_at_call 80; (with_reducible refine HS.out.mono ?_); rintro e wn ⟨rfl, rfl⟩))
      go_ret
      exact ⟨retI E.out, rfl⟩
  · have E := Lib.hid (show e = doneE bs e by simp [doneE, he])
    have q1 : (e != 0) = true := by simp [he]
    clear h h2 h3 h4 h5 h6 he
    go_enter Try.func82, Try.ntmps82
    go_wp2_with (first | (go_at_call 80; (with_reducible refine HS.out.mono ?_); rintro e wn ⟨rfl, rfl⟩))
    go_ret
    exact ⟨retI E.out, rfl⟩
theorem St.read77 {v : Value} (h : St W w L) (hb : Bs w v bs) : Calls Try.prog 77 #[v] w fun e' w' => ∃ p, e' = .returned (.pointer (some ⟨p, 0, none⟩)) ∧ St W w' (aRd p bs 0 :: L) := by
  have H := Lib.hid (Go.Proofs.Ythgpkbhilkdckaa.clone63 hb)
  have HL := Lib.hid hb.len
  clear hb
  go_enter Try.func77, Try.ntmps77
  go_wp2_with (first | (go_at_call 63; (with_reducible refine H.out.mono ?_); rintro e w1 ⟨v1, rfl, r1, hb1⟩; obtain ⟨A1, c1, rfl⟩ := own_slice r1))
  go_ret
  refine ⟨w1.heap.size, rfl, h.add (hb1.trans (B.alloc' _ _)) (A := aRd w1.heap.size bs 0) (own := fun x => w.heap.size ≤ x) ?_ (fun x e => e)⟩
  exact ⟨A1, c1, bs, hb1.size, Blk.new w1 _ _, (Bs.of_own r1 HL.out).later (B.alloc' _ _), fun g hg _ => row_ge r1 hg, fun _ => rfl, fun h => absurd rfl h⟩
end
end Go.Proofs.Ythgpkbhilkdckaa
