/- IdealFrom: the law returns true for every list of byte strings and every byte string. -/
import Derived.Deep.QuietTactic
import Derived.Test.YthgpkbhilkdckaaSq
namespace Go.Proofs.Ythgpkbhilkdckaa
open Go.ChangeShapes Go.WideShapes Go.ChangeAt Go.RowKit Go.Deep
set_option linter.unusedVariables false

section
variable {W w : World} {p : Nat} {M : List (List UInt8)} {X : List Asn} {v u : Value} {b : List UInt8} {inn inn' : Nat → Prop}
theorem St.from48_ok (h : St W w X) (hv : Lss inn w v M) (h0 : fromC M = 0) :
    Calls Try.prog 48 #[v] w fun e w' => ∃ p, e = .returned (.tuple #[.pointer (some ⟨p, 0, none⟩), .int .i64 0]) ∧ St W w' (aTab p M :: X) :=
  (from48 hv).mono fun e w' ⟨hb, hc⟩ => by
    rcases hc with ⟨_, p, he, hT⟩ | ⟨hn, _⟩
    · exact ⟨p, he, h.add hb (A := aTab p M) hT (fun x e => e)⟩
    · exact absurd h0 hn
theorem St.from48_no (h : St W w X) (hv : Lss inn w v M) (h0 : fromC M ≠ 0) :
    Calls Try.prog 48 #[v] w fun e w' => e = .returned (.tuple #[.pointer none, .int .i64 (fromC M)]) ∧ St W w' X :=
  (from48 hv).mono fun e w' ⟨hb, hc⟩ => by
    rcases hc with ⟨hn, _⟩ | ⟨hn, he⟩
    · exact absurd hn h0
    · exact ⟨he, h.later hb⟩
theorem St.from49_ok (h : St W w X) (hv : Lss inn w v M) (h0 : fromC M = 0) :
    Calls Try.prog 49 #[v] w fun e w' => ∃ p, e = .returned (.tuple #[.pointer (some ⟨p, 0, none⟩), .int .i64 0]) ∧ St W w' (aRef p M :: X) :=
  (from49 hv).mono fun e w' ⟨hb, hc⟩ => by
    rcases hc with ⟨_, p, he, hT⟩ | ⟨hn, _⟩
    · exact ⟨p, he, h.add hb (A := aRef p M) hT (fun x e => e)⟩
    · exact absurd h0 hn
theorem St.from49_no (h : St W w X) (hv : Lss inn w v M) (h0 : fromC M ≠ 0) :
    Calls Try.prog 49 #[v] w fun e w' => e = .returned (.tuple #[.pointer none, .int .i64 (fromC M)]) ∧ St W w' X :=
  (from49 hv).mono fun e w' ⟨hb, hc⟩ => by
    rcases hc with ⟨hn, _⟩ | ⟨hn, he⟩
    · exact absurd hn h0
    · exact ⟨he, h.later hb⟩
theorem St.plain51 (h : St W w (aTab p M :: X)) (hlen : M.length ≤ 1048576) :
    Calls Try.prog 51 #[.pointer (some ⟨p, 0, none⟩)] w fun e w' => ∃ v, e = .returned v ∧ Lss (fun g => w.heap.size ≤ g) w' v M ∧ St W w' (aTab p M :: X) := by
  obtain ⟨own, ht, ho⟩ := h.get
  exact (Go.Proofs.Ythgpkbhilkdckaa.plain51 ht hlen).mono fun e w' ⟨v, he, hL, hb⟩ => ⟨v, he, hL, h.later hb⟩
theorem St.same50 (h : St W w X) (hv : Lss inn w v M) (hu : Lss inn' w u M) :
    Calls Try.prog 50 #[v, u] w fun e w' => e = .returned (.bool true) ∧ St W w' X :=
  (sameAll50 hv hu).mono fun e w' ⟨he, hb⟩ => ⟨by rw [he, decide_eq_true rfl], h.later hb⟩
theorem St.rcell (h : St W w (aRef p M :: X)) : ∃ A cap, w.cell? ⟨p, 0, none⟩ = some (.slice A M.length cap) := by
  obtain ⟨own, ht, ho⟩ := h.get
  obtain ⟨v, vs, h1, h3, h4, h6, h7⟩ := ht
  obtain ⟨A, c, e⟩ := own_slice h6
  exact ⟨A, c, by rw [h4.cell]; simp [e]⟩
end
theorem fromC_le {M : List (List UInt8)} (h : fromC M = 0) : M.length ≤ 1048576 ∧ M.Nodup := by
  unfold fromC at h
  split at h
  · simp at h
  · split at h
    · exact ⟨by omega, by assumption⟩
    · simp at h

theorem sz_at {H : Type} {P : Program} {ts : List TypeId} {ds : List (DataW H)} (h : (DataW.weightsEach P ts ds).all (· ≤ reachBytes) = true) {j : Nat} {t : TypeId} {d : DataW H} (ht : ts[j]? = some t) (hd : ds[j]? = some d) : ∀ n ∈ d.weights P t, n ≤ reachBytes := fun n hn => by
  have := List.all_eq_true.1 h n (DataW.weights_mem_each ht hd n hn)
  simpa using this
theorem B.drewN (w : World) (n : Nat) : B w (w.drewN n) := ⟨rfl, rfl, rfl, Nat.le_refl _, fun _ _ => rfl⟩
set_option maxRecDepth 20000 in
set_option maxHeartbeats 2000000 in
theorem idealFrom_no {W : World} {v u : Value} {L : List (List UInt8)} {b : List UInt8} (hv : Lss (fun g => g < W.heap.size) W v L) (hu : Bs W u b) (h0 : fromC L ≠ 0) :
    Calls Try.prog 7 #[v, u] W fun e w' => e = .returned (.bool true) ∧ B W w' := by
  have HV := Lib.hid hv
  have HU := Lib.hid hu
  have H0 := Lib.hid h0
  clear hv hu h0
  go_enter Try.func7, Try.ntmps7
  go_wp2_with (first
    | (go_at_call 48; refine (St.from48_no (St.nil W) HV.out H0.out).mono ?_; rintro e w1 ⟨rfl, hS⟩; have HS1 := Lib.hid hS; clear hS)
    | (go_at_call 49; refine (St.from49_no HS1.out (HV.out.later HS1.out.b) H0.out).mono ?_; rintro e w2 ⟨rfl, hS⟩; have HS2 := Lib.hid hS; clear hS)
    | (go_at_call 24; refine (St.begun24 HS2.out).mono ?_; rintro e w3 ⟨rfl, hS⟩; have HS3 := Lib.hid hS; clear hS))
  go_quiet (fail)
  go_wp2_with fail
  go_ret
  exact ⟨by simp, HS3.out.b.trans (B.drewN _ _)⟩
set_option maxRecDepth 20000 in
set_option maxHeartbeats 4000000 in
theorem idealFrom_ok {W : World} {v u : Value} {L : List (List UInt8)} {b : List UInt8} (hv : Lss (fun g => g < W.heap.size) W v L) (hu : Bs W u b) (h0 : fromC L = 0) :
    Calls Try.prog 7 #[v, u] W fun e w' => e = .returned (.bool true) ∧ B W w' := by
  have HV := Lib.hid hv
  have HU := Lib.hid hu
  have H0 := Lib.hid h0
  have HL := Lib.hid (fromC_le h0)
  clear hv hu h0
  go_enter Try.func7, Try.ntmps7
  go_wp2_with (first
    | (go_at_call 48; refine (St.from48_ok (St.nil W) HV.out H0.out).mono ?_; rintro e w1 ⟨p, rfl, hS⟩; have HS1 := Lib.hid hS; clear hS)
    | (go_at_call 49; refine (St.from49_ok HS1.out (HV.out.later HS1.out.b) H0.out).mono ?_; rintro e w2 ⟨p2, rfl, hS⟩; have HS2 := Lib.hid hS; clear hS)
    | (go_at_call 24; refine (St.begun24 HS2.out).mono ?_; rintro e w3 ⟨rfl, hS⟩; have HS3 := Lib.hid (hS.later (Below.refl _ _).drew); clear hS))
  go_region_with (first
    | (go_at_call 51; refine (St.plain51 HS3.out.swap HL.out.1).mono ?_; rintro e w4 ⟨v4, rfl, hv4, hS⟩; have HS4 := Lib.hid hS; have HV4 := Lib.hid hv4; clear hS hv4)
    | (go_at_call 50; refine (St.same50 HS4.out HV4.out (HV.out.later HS4.out.b)).mono ?_; rintro e w5 ⟨rfl, hS⟩; have HS5 := Lib.hid hS; clear hS)
    | (go_at_call 52; refine (St.sum52 HS5.out (HU.out.later HS5.out.b) (fun g hg hne => HU.out.lt hne hg)).mono ?_; rintro e w6 ⟨rfl, hS⟩; have HS6 := Lib.hid hS; clear hS)
    | (go_at_call 53; refine (St.rsum53 HS6.out.swap (by have := HL.out.1; omega) (HU.out.later HS6.out.b)).mono ?_; rintro e w7 ⟨rfl, hS⟩; have HS7 := Lib.hid hS; obtain ⟨A7, c7, hc7⟩ := hS.rcell; clear hS)
    | (go_at_call 54; refine (St.len54 HS7.out.swap).mono ?_; rintro e w8 ⟨rfl, rfl⟩))
  all_goals
    go_wp2_with fail
    go_ret
    exact ⟨by simp [Act.put], HS7.out.b⟩
theorem idealFrom_walk {W : World} {v u : Value} {L : List (List UInt8)} {b : List UInt8} (hv : Lss (fun g => g < W.heap.size) W v L) (hu : Bs W u b) :
    Calls Try.prog 7 #[v, u] W fun e w' => e = .returned (.bool true) ∧ B W w' := by
  by_cases h0 : fromC L = 0
  · exact idealFrom_ok hv hu h0
  · exact idealFrom_no hv hu h0
end Go.Proofs.Ythgpkbhilkdckaa
