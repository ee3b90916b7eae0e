/- The tables and ledgers as objects apart, and their methods' contracts over 'St'. -/
import Derived.Test.YthgpkbhilkdckaaSp
import Derived.Test.YthgpkbhilkdckaaRw
import Derived.Test.YthgpkbhilkdckaaLo
namespace Go.Proofs.Ythgpkbhilkdckaa
open Go.RowKit
set_option linter.unusedVariables false

theorem Lss.bound {own : Nat → Prop} {w : World} {v : Value} {L : List (List UInt8)} (h : Lss own w v L) : Lss (fun x => own x ∧ x < w.heap.size) w v L := by
  obtain ⟨A, cap, rfl, hn, hc, hm, hr⟩ := h
  refine ⟨A, cap, rfl, hn, hc, hm, fun h0 => ?_⟩
  obtain ⟨b, off, rfl, hb1, hi, hx⟩ := hr h0
  refine ⟨b, off, rfl, hb1, ⟨hi, hb1⟩, fun i x hix => ?_⟩
  obtain ⟨u, h1, h2, h3⟩ := hx i x hix
  exact ⟨u, h1, h2, fun g hg hne => ⟨h3 g hg hne, h2.lt hne hg⟩⟩
def aTab (p : Nat) (M : List (List UInt8)) : Asn := ⟨fun own w => TableAt own w p M, fun h hx hd => h.ext hx hd, fun h => h.bound⟩
def aRef (p : Nat) (M : List (List UInt8)) : Asn := ⟨fun own w => RefT own w p M, fun h hx hd => h.ext hx hd, fun h => h.bound⟩
def aLss (v : Value) (M : List (List UInt8)) : Asn := ⟨fun own w => Lss own w v M, fun h hx hd => h.ext hx hd, fun h => h.bound⟩
section
variable {W w : World} {p : Nat} {M : List (List UInt8)} {L : List Asn} {v : Value} {b : List UInt8}
theorem St.sum52 (h : St W w (aTab p M :: L)) (hb : Bs w v b) (hv : ∀ g, v.ownBlock = some g → b ≠ [] → g < W.heap.size) :
    Calls Try.prog 52 #[.pointer (some ⟨p, 0, none⟩), v] w fun e w' => e = .returned (.int .i64 (sumN M b)) ∧ St W w' (aTab p (sumM M b) :: L) := by
  obtain ⟨own, ht, ho, hback⟩ := h.focus
  exact (Go.Proofs.Ythgpkbhilkdckaa.sum52 ht hb (fun g hg hne e => by have := hv g hg hne; have := (ho g e).1; omega)).mono fun e w' ⟨he, hT, hx⟩ => ⟨he, hback w' (aTab p _) hx hT⟩
/-- what is summed is an object itself -/
theorem St.sum52' (h : St W w (aTab p M :: aBs v b :: L)) :
    Calls Try.prog 52 #[.pointer (some ⟨p, 0, none⟩), v] w fun e w' => e = .returned (.int .i64 (sumN M b)) ∧ St W w' (aTab p (sumM M b) :: aBs v b :: L) := by
  obtain ⟨own, o', ht, hv, ho, hd, hback⟩ := h.focus2
  exact (Go.Proofs.Ythgpkbhilkdckaa.sum52 ht hv.1 (fun g hg hne => hd g (hv.2 g hg hne))).mono fun e w' ⟨he, hT, hx⟩ => ⟨he, hback w' (aTab p _) hx hT⟩
theorem St.rsum53 (h : St W w (aRef p M :: L)) (hl : M.length ≤ 9223372036854775806) (hb : Bs w v b) :
    Calls Try.prog 53 #[.pointer (some ⟨p, 0, none⟩), v] w fun e w' => e = .returned (.int .i64 (sumN M b)) ∧ St W w' (aRef p (sumM M b) :: L) := by
  obtain ⟨own, ht, ho, hback⟩ := h.focus
  exact (Go.Proofs.Ythgpkbhilkdckaa.rsum53 ht hl hb).mono fun e w' ⟨he, hT, hx⟩ => ⟨he, hback w' (aRef p _) hx hT⟩
theorem St.newTable61 (h : St W w L) : Calls Try.prog 61 #[] w fun e w' => ∃ p, e = .returned (.pointer (some ⟨p, 0, none⟩)) ∧ St W w' (aTab p [] :: L) :=
  (Go.Proofs.Ythgpkbhilkdckaa.newTable61 w).mono fun e w' ⟨he, hw⟩ => ⟨_, he, by subst hw; exact h.add ((B.alloc' _ _).trans (B.alloc' _ _)) (A := aTab _ []) (own := fun b => b = w.heap.size ∨ b = w.heap.size + 1) (TableAt.new w) (fun x e => by omega)⟩
theorem St.tclone62 (h : St W w (aTab p M :: L)) (hM : fromC M = 0) : Calls Try.prog 62 #[.pointer (some ⟨p, 0, none⟩)] w fun e w' => ∃ p', e = .returned (.pointer (some ⟨p', 0, none⟩)) ∧ St W w' (aTab p' M :: aTab p M :: L) := by
  obtain ⟨own, ht, ho⟩ := h.get
  exact (Go.Proofs.Ythgpkbhilkdckaa.tclone62 ht hM).mono fun e w' ⟨p', he, hT, hb⟩ => ⟨p', he, h.add hb (A := aTab p' M) hT (fun x e => e)⟩
theorem St.begun24 (h : St W w L) : Calls Try.prog 24 #[] w fun e w' => e = .returned (.bool true) ∧ St W w' L :=
  (Go.Proofs.Ythgpkbhilkdckaa.begun24 w).mono fun e w' ⟨he, hb⟩ => ⟨he, h.later hb⟩
theorem St.len54 (h : St W w (aTab p M :: L)) : Calls Try.prog 54 #[.pointer (some ⟨p, 0, none⟩)] w fun e w' => e = .returned (.int .i64 (M.length : Int)) ∧ w = w' := by
  obtain ⟨own, ht, ho⟩ := h.get
  exact Go.Proofs.Ythgpkbhilkdckaa.len54 ht
end
end Go.Proofs.Ythgpkbhilkdckaa
