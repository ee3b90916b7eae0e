/- The reference's reader. -/
import Derived.Test.YthgpkbhilkdckaaCj
namespace Go.Proofs.Ythgpkbhilkdckaa
open Go.RowKit
set_option linter.unusedVariables false

/-- the reference's reader: its bytes lie in memory that was there at W -/
def RrAt (W : World) (own : Nat → Prop) (w : World) (p : Nat) (bs : List UInt8) (e : Int) : Prop :=
  ∃ (A : Option Addr) (c : Nat), own p ∧ Blk w p 91 #[.slice A bs.length c, .int .i64 e] ∧ Bs W (.slice A bs.length c) bs ∧ (e ≠ 0 → bs = [])
def aRr (W : World) (p : Nat) (bs : List UInt8) (e : Int) : Asn where
  at_ own w := RrAt W own w p bs e
  ext := fun ⟨A, c, h1, h2, h3, h4⟩ hx hd => ⟨A, c, h1, h2.ext hx (hd _ h1), h3, h4⟩
  bound := fun ⟨A, c, h1, h2, h3, h4⟩ => ⟨A, c, ⟨h1, h2.lt⟩, h2, h3, h4⟩
section
variable {W w : World} {p : Nat} {bs : List UInt8} {e : Int} {L : List Asn}
theorem St.rr (h : St W w (aRr W p bs e :: L)) : ∃ A c, w.cell? ⟨p, 0, none⟩ = some (.slice A bs.length c) ∧ w.cell? ⟨p, 1, none⟩ = some (.int .i64 e) ∧ (∀ i, w.frozen? ⟨p, i, none⟩ = false) ∧ Bs W (.slice A bs.length c) bs ∧ (e ≠ 0 → bs = []) := by
  obtain ⟨own, ⟨A, c, h1, h2, h3, h4⟩, ho⟩ := h.get
  exact ⟨A, c, by rw [h2.cell]; rfl, by rw [h2.cell]; rfl, h2.frozen, h3, h4⟩
theorem St.rrSet0 (h : St W w (aRr W p bs e :: L)) {A : Option Addr} {n c : Nat} {bs' : List UInt8} (hb : Bs W (.slice A n c) bs') (hn : n = bs'.length) (he : e ≠ 0 → bs' = []) : St W (w.setCell ⟨p, 0, none⟩ (.slice A n c)) (aRr W p bs' e :: L) := by
  subst hn
  obtain ⟨own, ⟨A0, c0, h1, h2, h3, h4⟩, ho, hback⟩ := h.focus
  exact hback _ (aRr W p bs' e) ((Ext.refl own w).set (p := ⟨p, 0, none⟩) (fun _ => h1) _) ⟨A, c, .inl h1, by simpa using h2.set_ 0 (.slice A bs'.length c), hb, he⟩
theorem St.rrSet1 (h : St W w (aRr W p [] e :: L)) (k : Int) : St W (w.setCell ⟨p, 1, none⟩ (.int .i64 k)) (aRr W p [] k :: L) := by
  obtain ⟨own, ⟨A0, c0, h1, h2, h3, h4⟩, ho, hback⟩ := h.focus
  exact hback _ (aRr W p [] k) ((Ext.refl own w).set (p := ⟨p, 1, none⟩) (fun _ => h1) _) ⟨A0, c0, .inl h1, by simpa using h2.set_ 1 (.int .i64 k), h3, fun _ => rfl⟩
theorem St.rrSet10 (h : St W w (aRr W p bs 0 :: L)) (k : Int) : St W ((w.setCell ⟨p, 1, none⟩ (.int .i64 k)).setCell ⟨p, 0, none⟩ (.slice none 0 0)) (aRr W p [] k :: L) := by
  obtain ⟨own, ⟨A0, c0, h1, h2, h3, h4⟩, ho, hback⟩ := h.focus
  have hx : Ext own w ((w.setCell ⟨p, 1, none⟩ (.int .i64 k)).setCell ⟨p, 0, none⟩ (.slice none 0 0)) := ((Ext.refl own w).set (p := ⟨p, 1, none⟩) (fun _ => h1) _).set (p := ⟨p, 0, none⟩) (fun _ => h1) _
  exact hback _ (aRr W p [] k) hx ⟨none, 0, .inl h1, by simpa using (h2.set_ 1 (.int .i64 k)).set_ 0 (.slice none 0 0), Bs.nil W, fun _ => rfl⟩
theorem St.rrSame (h : St W w (aRr W p bs 0 :: L)) : St W (w.setCell ⟨p, 1, none⟩ (.int .i64 0)) (aRr W p bs 0 :: L) := by
  obtain ⟨own, ⟨A0, c0, h1, h2, h3, h4⟩, ho, hback⟩ := h.focus
  exact hback _ (aRr W p bs 0) ((Ext.refl own w).set (p := ⟨p, 1, none⟩) (fun _ => h1) _) ⟨A0, c0, .inl h1, by simpa using h2.set_ 1 (.int .i64 0), h3, h4⟩
set_option maxHeartbeats 1000000 in
theorem St.fail121 (h : St W w (aRr W p bs e :: L)) (k : Int) : Calls Try.prog 121 #[.pointer (some ⟨p, 0, none⟩), .int .i64 k] w fun e' w' => e' = .returned (.tuple #[]) ∧ St W w' (aRr W p (failB bs e k) (failE e k) :: L) := by
  have H := Lib.hid h
  obtain ⟨A, c, c0, c1, f, hb, he⟩ := h.rr
  have f0 := f 0
  have f1 := f 1
  by_cases e0 : e = 0
  · subst e0
    by_cases k0 : k = 0
    · subst k0
      rw [show failB bs 0 0 = bs by simp [failB], show failE 0 0 = 0 by simp [failE]]
      clear h f hb he
      go_enter Try.func121, Try.ntmps121
      go_wp2
      go_end0
      exact ⟨rfl, H.out.rrSame⟩
    · rw [show failB bs 0 k = [] by simp [failB, k0], show failE 0 k = k by simp [failE]]
      have q1 : (k != 0) = true := by simp [k0]
      clear h f hb he k0
      go_enter Try.func121, Try.ntmps121
      go_wp2
      go_end0
      exact ⟨rfl, H.out.rrSet10 k⟩
  · obtain rfl := he e0
    rw [show failB [] e k = [] by simp [failB], show failE e k = e by simp [failE, e0]]
    have q1 : (e != 0) = true := by simp [e0]
    have q2 : (e == 0) = false := by simp [e0]
    have E := Lib.hid (H.out.rrSet0 (Bs.nil W) rfl (fun _ => rfl))
    clear h f hb he e0
    go_enter Try.func121, Try.ntmps121
    go_wp2
    go_end0
    exact ⟨rfl, E.out⟩
theorem St.done83 (h : St W w (aRr W p bs e :: L)) : Calls Try.prog 83 #[.pointer (some ⟨p, 0, none⟩)] w fun e' w' => e' = .returned (.int .i64 (doneE bs e)) ∧ w = w' := by
  obtain ⟨A, c, c0, c1, f, hb, he⟩ := h.rr
  by_cases e0 : e = 0
  · subst e0
    by_cases hn : bs = []
    · subst hn
      have E := Lib.hid (show (0 : Int) = doneE [] 0 by simp [doneE])
      clear h f hb he
      go_enter Try.func83, Try.ntmps83
      go_wp2
      go_ret
      exact ⟨retI E.out, rfl⟩
    · have E := Lib.hid (show (12 : Int) = doneE bs 0 by simp [doneE, hn])
      have hl : (0 : Int) < bs.length := by have := List.length_pos_iff.2 hn; omega
      clear h f hb he hn
      go_enter Try.func83, Try.ntmps83
      go_wp2
      go_ret
      exact ⟨retI E.out, rfl⟩
  · have E := Lib.hid (show e = doneE bs e by simp [doneE, e0])
    have q2 : (e == 0) = false := by simp [e0]
    clear h f hb he e0
    go_enter Try.func83, Try.ntmps83
    go_wp2
    go_ret
    exact ⟨retI E.out, rfl⟩
theorem St.read78 {A : Option Addr} {c : Nat} (h : St W w L) (hb : Bs W (.slice A bs.length c) bs) : Calls Try.prog 78 #[.slice A bs.length c] w fun e' w' => ∃ p, e' = .returned (.pointer (some ⟨p, 0, none⟩)) ∧ St W w' (aRr W p bs 0 :: L) := by
  have E := Lib.hid (show St W (w.alloc (.cells #[.slice A bs.length c, .int .i64 0] 91)) (aRr W w.heap.size bs 0 :: L) from
    h.add (B.alloc' _ _) (A := aRr W w.heap.size bs 0) (own := fun x => x = w.heap.size) ⟨A, c, rfl, Blk.new w _ _, hb, fun h => absurd rfl h⟩ (fun x e => by omega))
  clear h hb
  go_enter Try.func78, Try.ntmps78
  go_wp2
  go_ret
  exact ⟨_, rfl, E.out⟩
end
end Go.Proofs.Ythgpkbhilkdckaa
