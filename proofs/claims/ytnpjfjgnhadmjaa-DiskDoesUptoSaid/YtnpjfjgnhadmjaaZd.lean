/- DiskDoes: for every room and every list of operations of bulk at most 1048576 the law returns true and leaves what it was handed as it was. -/
import Derived.Test.YtnpjfjgnhadmjaaZb3
/- DiskRefuses: the walk. -/
namespace Go.Proofs.Ytnpjfjgnhadmjaa
open Go.RowKit Go.Maps Go.Deep
set_option linter.unusedVariables false

section
variable {W w : World} {p r : Nat} {d : Dk} {X : List Asn} {n : List UInt8} {A C D : Asn}
theorem St.swap2 (h : St W w (A :: C :: D :: X)) : St W w (A :: D :: C :: X) := h.perm (List.Perm.cons _ (List.Perm.swap _ _ _))
theorem turn_room (g : Fl → Int × Fl) : (turnF d n g).2.room = d.room := by
  unfold turnF
  repeat' split
  all_goals rfl
theorem step_room (d : Dk) (o : OpV) : (stepF d o).2.room = d.room := by
  unfold stepF
  split; · unfold createF; repeat' split
           all_goals rfl
  split; · exact turn_room _
  split; · exact turn_room _
  split; · exact turn_room _
  split; · unfold renameF; repeat' split
           all_goals rfl
  split; · exact turn_room _
  split; · unfold removeF; repeat' split
           all_goals rfl
  split; · unfold crashF; split <;> rfl
  split; · unfold restartF; split <;> rfl
  rfl
theorem nm_empty (k : Int) (o : Bool) : nmOk ⟨[], k, o⟩ := fun f hf => by cases hf
set_option maxRecDepth 20000 in
set_option maxHeartbeats 4000000 in
theorem diskRefuses_walk {W : World} {v : Value} {L : List OpV} {k : Nat} (hk : k ≤ 255) (hL : Ops W v L) :
    Calls Try.prog 3 #[.int .u8 (k : Int), v] W fun e w' => e = .returned (.bool true) ∧ B W w' := by
  obtain ⟨A, c, rfl, hm1, hr⟩ := hL
  have HR := Lib.hid hr
  have HK := Lib.hid (show ¬ ((k : Int) < 0 ∨ 4194304 < (k : Int)) by omega)
  have q1 : IntKind.i64.wrap (k : Int) = (k : Int) := by simp [IntKind.wrap, IntKind.signed, IntKind.bits]; omega
  have hs : (L.length : Int) ≤ 9223372036854775807 := by omega
  have HKE := Lib.hid hk
  clear hr hm1 hk
  go_enter Try.func3, Try.ntmps3
  go_wp2_with (first
    | (go_at_call 7; (with_reducible refine (live_c (St.nil W)).mono ?_); rintro e w1 ⟨rfl, hS⟩; have HS1 := Lib.hid hS; clear hS)
    | (go_at_call 8; (with_reducible refine (new_yes HS1.out HK.out).mono ?_); rintro e w2 ⟨p, rfl, hS⟩; have HS2 := Lib.hid hS; clear hS)
    | (go_at_call 9; (with_reducible refine (rnew_yes HS2.out HK.out).mono ?_); rintro e w3 ⟨r, rfl, hS⟩; have HS3 := Lib.hid hS.swap; clear hS))
  go_loopw [35] (fun i wr => ∃ (q : Nat) (d : Dk), q ≤ L.length ∧ i = .int .i64 (q : Int) ∧ Hid (nmOk d ∧ d.room = (k : Int)) ∧ Hid (St W wr [aDisk p d, aRdk r d])) (fun i _ => L.length - (intOf i).toNat)
  case atStart => exact ⟨0, _, Nat.zero_le _, rfl, ⟨nm_empty _ _, rfl⟩, HS3.out⟩
  case round =>
    obtain ⟨q, d, hq, rfl, HD, HS⟩ := hrel
    clear HS1 HS2 HS3
    by_cases hlt : q < L.length
    · obtain ⟨b, off, rfl, hbl, hc⟩ := HR.out (by omega)
      obtain ⟨hok, _, hcells⟩ := hc q _ (List.getElem?_eq_getElem hlt)
      have hqi : (q : Int) < L.length := by omega
      generalize L[q] = o at *
      obtain ⟨d', hd'⟩ : ∃ d', (stepF d o).2 = d' := ⟨_, rfl⟩
      have HD2 := Lib.hid (show nmOk d' ∧ d'.room = (k : Int) by rw [← hd']; exact ⟨nm_step HD.out.1 hok, (step_room d o).trans HD.out.2⟩)
      have hdk : d.ok := aRdk.ok HS.out.swap
      have hdk' : d'.ok := by rw [← hd']; exact step_ok hdk o
      obtain ⟨us, hus⟩ : ∃ us : Int, ((usedF d'.R : Nat) : Int) = us := ⟨_, rfl⟩
      have hus2 : us ≤ (k : Int) := by rw [← hus, ← HD2.out.2]; exact hdk'.used
      have HUS := Lib.hid hus
      have HSM := Lib.hid (fun (h : askedF d o = true) => show d' = d by rw [← hd']; exact asked_same h)
      have HDO := Lib.hid (fun (w' : World) (Y : List Asn) (h : St W w' (aDisk p d :: aRdk r d :: Y)) => does_c h hok)
      have HRE := Lib.hid (fun (w' : World) (Y : List Asn) (x : Nat) (h : St W w' (aRdk x d :: Y)) => refused_c h hok)
      have HNL := Lib.hid hok.n
      obtain ⟨Au, cu, hux⟩ := hok.u.rd.slice
      rw [hd'] at HDO
      obtain ⟨ask, hask⟩ : ∃ ask, askedF d o = ask := ⟨_, rfl⟩
      rw [hask] at HRE HSM
      clear hask hd' hok hdk hdk' hus hc
      obtain ⟨ok, n, to, at_, u, bs⟩ := o
      simp only at hux HDO HRE HSM HNL
      subst hux
      unfold OpV.cells at HDO HRE hcells
      simp only at HDO HRE hcells
      have k0 : wr.cell? ⟨b, off + q * 5 + 0, none⟩ = some (.int .i64 ok) := HS.out.b.cell (hcells 0 _ rfl)
      have k1 : wr.cell? ⟨b, off + q * 5 + 1, none⟩ = some (.string (bstr n)) := HS.out.b.cell (hcells 1 _ rfl)
      have k2 : wr.cell? ⟨b, off + q * 5 + 2, none⟩ = some (.string (bstr to)) := HS.out.b.cell (hcells 2 _ rfl)
      have k3 : wr.cell? ⟨b, off + q * 5 + 3, none⟩ = some (.int .i64 at_) := HS.out.b.cell (hcells 3 _ rfl)
      have k4 : wr.cell? ⟨b, off + q * 5 + 4, none⟩ = some (.slice Au bs.length cu) := HS.out.b.cell (hcells 4 _ rfl)
      simp only [Nat.add_zero] at k0
      have HS0 := Lib.hid (aBlk.new HS.out 33 #[.int .i64 ok, .string (bstr n), .string (bstr to), .int .i64 at_, .slice Au bs.length cu])
      clear hcells
      cases ask with
      | false =>
        go_wp2_with (first
          | (go_at_call 10; (with_reducible refine (rclone_c HS0.out.rot3).mono ?_); rintro e w1 ⟨c1, rfl, hS⟩; have H1 := Lib.hid hS.rot4.swap2; clear hS k0 k1 k2 k3 k4; generalize wr.heap.size = g at *; have m0 := H1.out.cellOf (g := g) (t := 33) (cs := #[.int .i64 ok, .string (bstr n), .string (bstr to), .int .i64 at_, .slice Au bs.length cu]) (by simp) 0; simp only [List.getElem?_toArray, List.getElem?_cons_zero] at m0; have m1 := H1.out.cellOf (g := g) (t := 33) (cs := #[.int .i64 ok, .string (bstr n), .string (bstr to), .int .i64 at_, .slice Au bs.length cu]) (by simp) 1; simp only [List.getElem?_toArray, List.getElem?_cons_succ, List.getElem?_cons_zero] at m1; have m2 := H1.out.cellOf (g := g) (t := 33) (cs := #[.int .i64 ok, .string (bstr n), .string (bstr to), .int .i64 at_, .slice Au bs.length cu]) (by simp) 2; simp only [List.getElem?_toArray, List.getElem?_cons_succ, List.getElem?_cons_zero] at m2; have m3 := H1.out.cellOf (g := g) (t := 33) (cs := #[.int .i64 ok, .string (bstr n), .string (bstr to), .int .i64 at_, .slice Au bs.length cu]) (by simp) 3; simp only [List.getElem?_toArray, List.getElem?_cons_succ, List.getElem?_cons_zero] at m3; have m4 := H1.out.cellOf (g := g) (t := 33) (cs := #[.int .i64 ok, .string (bstr n), .string (bstr to), .int .i64 at_, .slice Au bs.length cu]) (by simp) 4; simp only [List.getElem?_toArray, List.getElem?_cons_succ, List.getElem?_cons_zero] at m4)
          | (go_at_call 11; (with_reducible refine (HDO.out _ _ H1.out).mono ?_); rintro e w2 ⟨rfl, hS⟩; have H2 := Lib.hid hS; clear hS m0 m1 m2 m3 m4)
          | (go_at_call 12; (with_reducible refine (usedD_c H2.out).mono ?_); rintro e w3 ⟨rfl, hb3⟩; rw [HUS.out]; have H3 := Lib.hid (H2.out.later hb3); clear hb3)
          | (go_at_call 10; (with_reducible refine (rclone_c H3.out.rot3).mono ?_); rintro e w4 ⟨c4, rfl, hS⟩; have H4 := Lib.hid hS; clear hS; have n0 := H4.out.cellOf (g := g) (t := 33) (cs := #[.int .i64 ok, .string (bstr n), .string (bstr to), .int .i64 at_, .slice Au bs.length cu]) (by simp) 0; simp only [List.getElem?_toArray, List.getElem?_cons_zero] at n0; have n1 := H4.out.cellOf (g := g) (t := 33) (cs := #[.int .i64 ok, .string (bstr n), .string (bstr to), .int .i64 at_, .slice Au bs.length cu]) (by simp) 1; simp only [List.getElem?_toArray, List.getElem?_cons_succ, List.getElem?_cons_zero] at n1; have n2 := H4.out.cellOf (g := g) (t := 33) (cs := #[.int .i64 ok, .string (bstr n), .string (bstr to), .int .i64 at_, .slice Au bs.length cu]) (by simp) 2; simp only [List.getElem?_toArray, List.getElem?_cons_succ, List.getElem?_cons_zero] at n2; have n3 := H4.out.cellOf (g := g) (t := 33) (cs := #[.int .i64 ok, .string (bstr n), .string (bstr to), .int .i64 at_, .slice Au bs.length cu]) (by simp) 3; simp only [List.getElem?_toArray, List.getElem?_cons_succ, List.getElem?_cons_zero] at n3; have n4 := H4.out.cellOf (g := g) (t := 33) (cs := #[.int .i64 ok, .string (bstr n), .string (bstr to), .int .i64 at_, .slice Au bs.length cu]) (by simp) 4; simp only [List.getElem?_toArray, List.getElem?_cons_succ, List.getElem?_cons_zero] at n4)
          | (go_at_call 13; (with_reducible refine (HRE.out _ _ _ H4.out).mono ?_); rintro e w5 ⟨rfl, d2, hS⟩; have H5 := Lib.hid hS.drop.drop.rot3.drop; clear hS n0 n1 n2 n3 n4))
        go_roundw
        case rel => exact ⟨q + 1, d', by omega, by go_num, HD2.out, H5.out⟩
        case measure => simp [intOf]; omega
      | true =>
        obtain rfl := HSM.out rfl
        go_wp2_with (first
          | (go_at_call 10; (with_reducible refine (rclone_c HS0.out.rot3).mono ?_); rintro e w1 ⟨c1, rfl, hS⟩; have H1 := Lib.hid hS.rot4.swap2; clear hS k0 k1 k2 k3 k4; generalize wr.heap.size = g at *; have m0 := H1.out.cellOf (g := g) (t := 33) (cs := #[.int .i64 ok, .string (bstr n), .string (bstr to), .int .i64 at_, .slice Au bs.length cu]) (by simp) 0; simp only [List.getElem?_toArray, List.getElem?_cons_zero] at m0; have m1 := H1.out.cellOf (g := g) (t := 33) (cs := #[.int .i64 ok, .string (bstr n), .string (bstr to), .int .i64 at_, .slice Au bs.length cu]) (by simp) 1; simp only [List.getElem?_toArray, List.getElem?_cons_succ, List.getElem?_cons_zero] at m1; have m2 := H1.out.cellOf (g := g) (t := 33) (cs := #[.int .i64 ok, .string (bstr n), .string (bstr to), .int .i64 at_, .slice Au bs.length cu]) (by simp) 2; simp only [List.getElem?_toArray, List.getElem?_cons_succ, List.getElem?_cons_zero] at m2; have m3 := H1.out.cellOf (g := g) (t := 33) (cs := #[.int .i64 ok, .string (bstr n), .string (bstr to), .int .i64 at_, .slice Au bs.length cu]) (by simp) 3; simp only [List.getElem?_toArray, List.getElem?_cons_succ, List.getElem?_cons_zero] at m3; have m4 := H1.out.cellOf (g := g) (t := 33) (cs := #[.int .i64 ok, .string (bstr n), .string (bstr to), .int .i64 at_, .slice Au bs.length cu]) (by simp) 4; simp only [List.getElem?_toArray, List.getElem?_cons_succ, List.getElem?_cons_zero] at m4)
          | (go_at_call 11; (with_reducible refine (HDO.out _ _ H1.out).mono ?_); rintro e w2 ⟨rfl, hS⟩; have H2 := Lib.hid hS; clear hS m0 m1 m2 m3 m4)
          | (go_at_call 12; (with_reducible refine (usedD_c H2.out).mono ?_); rintro e w3 ⟨rfl, hb3⟩; rw [HUS.out]; have H3 := Lib.hid (H2.out.later hb3); clear hb3)
          | (go_at_call 10; (with_reducible refine (rclone_c H3.out.rot3).mono ?_); rintro e w4 ⟨c4, rfl, hS⟩; have H4 := Lib.hid hS; clear hS; have n0 := H4.out.cellOf (g := g) (t := 33) (cs := #[.int .i64 ok, .string (bstr n), .string (bstr to), .int .i64 at_, .slice Au bs.length cu]) (by simp) 0; simp only [List.getElem?_toArray, List.getElem?_cons_zero] at n0; have n1 := H4.out.cellOf (g := g) (t := 33) (cs := #[.int .i64 ok, .string (bstr n), .string (bstr to), .int .i64 at_, .slice Au bs.length cu]) (by simp) 1; simp only [List.getElem?_toArray, List.getElem?_cons_succ, List.getElem?_cons_zero] at n1; have n2 := H4.out.cellOf (g := g) (t := 33) (cs := #[.int .i64 ok, .string (bstr n), .string (bstr to), .int .i64 at_, .slice Au bs.length cu]) (by simp) 2; simp only [List.getElem?_toArray, List.getElem?_cons_succ, List.getElem?_cons_zero] at n2; have n3 := H4.out.cellOf (g := g) (t := 33) (cs := #[.int .i64 ok, .string (bstr n), .string (bstr to), .int .i64 at_, .slice Au bs.length cu]) (by simp) 3; simp only [List.getElem?_toArray, List.getElem?_cons_succ, List.getElem?_cons_zero] at n3; have n4 := H4.out.cellOf (g := g) (t := 33) (cs := #[.int .i64 ok, .string (bstr n), .string (bstr to), .int .i64 at_, .slice Au bs.length cu]) (by simp) 4; simp only [List.getElem?_toArray, List.getElem?_cons_succ, List.getElem?_cons_zero] at n4)
          | (go_at_call 13; (with_reducible refine (HRE.out _ _ _ H4.out).mono ?_); rintro e w5 ⟨rfl, d2, hS⟩; have H5 := Lib.hid hS.rot3.swap2; clear hS n0 n1 n2 n3 n4; have o1 := H5.out.cellOf (g := g) (t := 33) (cs := #[.int .i64 ok, .string (bstr n), .string (bstr to), .int .i64 at_, .slice Au bs.length cu]) (by simp) 1; simp only [List.getElem?_toArray, List.getElem?_cons_succ, List.getElem?_cons_zero] at o1)
          | (go_at_call 14; (with_reducible refine (same_c H5.out HNL.out HD.out.1).mono ?_); rintro e w6 ⟨rfl, hS⟩; have H6 := Lib.hid hS; clear hS))
        go_roundw
        case rel => exact ⟨q + 1, d', by omega, by go_num, HD2.out, H6.out.drop2.drop2.rot3.drop⟩
        case measure => simp [intOf]; omega
    · have hqi : ¬ (q : Int) < L.length := by omega
      go_wp2_with fail
      go_ret
      exact ⟨rfl, HS.out.b⟩
end
end Go.Proofs.Ytnpjfjgnhadmjaa

/- DiskDoes: the walk. -/
namespace Go.Proofs.Ytnpjfjgnhadmjaa
open Go.RowKit Go.Maps Go.Deep
set_option linter.unusedVariables false

section
set_option maxRecDepth 20000 in
set_option maxHeartbeats 4000000 in
theorem diskDoes_walk {W : World} {v : Value} {L : List OpV} {k : Int} (hL : Ops W v L) :
    Calls Try.prog 6 #[.int .i64 k, v] W fun e w' => e = .returned (.bool true) ∧ B W w' := by
  obtain ⟨A, c, rfl, hm1, hr⟩ := hL
  have HR := Lib.hid hr
  by_cases hk : k < 0 ∨ 4194304 < k
  · have HK := Lib.hid hk
    clear hr hm1 hk
    go_enter Try.func6, Try.ntmps6
    go_wp2_with (first
      | (go_at_call 7; (with_reducible refine (live_c (St.nil W)).mono ?_); rintro e w1 ⟨rfl, hS⟩; have HS1 := Lib.hid hS; clear hS)
      | (go_at_call 8; (with_reducible refine (new_no HS1.out HK.out).mono ?_); rintro e w2 ⟨rfl, hS⟩; have HS2 := Lib.hid hS; clear hS)
      | (go_at_call 9; (with_reducible refine (rnew_no HS2.out HK.out).mono ?_); rintro e w3 ⟨rfl, hS⟩; have HS3 := Lib.hid hS; clear hS))
    go_ret
    exact ⟨rfl, HS3.out.b⟩
  have HK := Lib.hid hk
  have hs : (L.length : Int) ≤ 9223372036854775807 := by omega
  clear hr hm1 hk
  go_enter Try.func6, Try.ntmps6
  go_wp2_with (first
    | (go_at_call 7; (with_reducible refine (live_c (St.nil W)).mono ?_); rintro e w1 ⟨rfl, hS⟩; have HS1 := Lib.hid hS; clear hS)
    | (go_at_call 8; (with_reducible refine (new_yes HS1.out HK.out).mono ?_); rintro e w2 ⟨p, rfl, hS⟩; have HS2 := Lib.hid hS; clear hS)
    | (go_at_call 9; (with_reducible refine (rnew_yes HS2.out HK.out).mono ?_); rintro e w3 ⟨r, rfl, hS⟩; have HS3 := Lib.hid hS.swap; clear hS))
  go_loopw [5, 38] (fun dv i wr => ∃ (q p : Nat) (d : Dk), q ≤ L.length ∧ i = .int .i64 (q : Int) ∧ dv = .pointer (some ⟨p, 0, none⟩) ∧ Hid (nmOk d) ∧ Hid (St W wr [aDisk p d, aRdk r d])) (fun _ i _ => L.length - (intOf i).toNat)
  case atStart => exact ⟨0, p, _, Nat.zero_le _, rfl, rfl, nm_empty _ _, HS3.out⟩
  case round =>
    obtain ⟨q, p, d, hq, rfl, rfl, HD, HS⟩ := hrel
    clear HS1 HS2 HS3
    by_cases hlt : q < L.length
    · obtain ⟨b, off, rfl, hbl, hc⟩ := HR.out (by omega)
      obtain ⟨hok, _, hcells⟩ := hc q _ (List.getElem?_eq_getElem hlt)
      have hqi : (q : Int) < L.length := by omega
      generalize L[q] = o at *
      obtain ⟨d', hd'⟩ : ∃ d', (stepF d o).2 = d' := ⟨_, rfl⟩
      have HD2 := Lib.hid (show nmOk d' by rw [← hd']; exact nm_step HD.out hok)
      have hdk : d.ok := aRdk.ok HS.out.swap
      have HDO := Lib.hid (fun (w' : World) (Y : List Asn) (h : St W w' (aDisk p d :: aRdk r d :: Y)) => does_c h hok)
      have HNL := Lib.hid hok.n
      obtain ⟨Au, cu, hux⟩ := hok.u.rd.slice
      rw [hd'] at HDO
      clear hd' hok hdk hc
      obtain ⟨ok, n, to, at_, u, bs⟩ := o
      simp only at hux HDO HNL
      subst hux
      unfold OpV.cells at HDO hcells
      simp only at HDO hcells
      have k0 : wr.cell? ⟨b, off + q * 5 + 0, none⟩ = some (.int .i64 ok) := HS.out.b.cell (hcells 0 _ rfl)
      have k1 : wr.cell? ⟨b, off + q * 5 + 1, none⟩ = some (.string (bstr n)) := HS.out.b.cell (hcells 1 _ rfl)
      have k2 : wr.cell? ⟨b, off + q * 5 + 2, none⟩ = some (.string (bstr to)) := HS.out.b.cell (hcells 2 _ rfl)
      have k3 : wr.cell? ⟨b, off + q * 5 + 3, none⟩ = some (.int .i64 at_) := HS.out.b.cell (hcells 3 _ rfl)
      have k4 : wr.cell? ⟨b, off + q * 5 + 4, none⟩ = some (.slice Au bs.length cu) := HS.out.b.cell (hcells 4 _ rfl)
      simp only [Nat.add_zero] at k0
      have HS0 := Lib.hid (aBlk.new HS.out 33 #[.int .i64 ok, .string (bstr n), .string (bstr to), .int .i64 at_, .slice Au bs.length cu])
      clear hcells
      have HNL2 := Lib.hid (show n.length ≤ maxLen by have := HNL.out; unfold maxLen; omega)
      have HNM := Lib.hid (show ∀ f ∈ d'.R, f.nm.length ≤ maxLen from fun f hf => by have := HD2.out f hf; unfold maxLen; omega)
      have HCO := Lib.hid (fun (w' : World) (p : Nat) (d : Dk) (Y : List Asn) (h : St W w' (aDisk p d :: Y)) => (show Calls Try.prog 23 #[.pointer (some ⟨p, 0, none⟩), .string ⟨#[111, 116, 104, 101, 114]⟩] w' fun e w' => e = .returned (.int .i64 (createF d [111, 116, 104, 101, 114]).1) ∧ St W w' (aDisk p (createF d [111, 116, 104, 101, 114]).2 :: Y) from create_c h (by unfold maxLen; decide)))
      by_cases h9 : ok = 9
      · subst h9
        go_wp2_with (first
          | (go_at_call 11; (with_reducible refine (HDO.out _ _ HS0.out.rot3.rot3).mono ?_); rintro e w1 ⟨rfl, hS⟩; have H1 := Lib.hid hS; clear hS k0 k1 k2 k3 k4; generalize wr.heap.size = g at *; have m0 := H1.out.cellOf (g := g) (t := 33) (cs := #[.int .i64 9, .string (bstr n), .string (bstr to), .int .i64 at_, .slice Au bs.length cu]) (by simp) 0; simp only [List.getElem?_toArray, List.getElem?_cons_zero] at m0; have m1 := H1.out.cellOf (g := g) (t := 33) (cs := #[.int .i64 9, .string (bstr n), .string (bstr to), .int .i64 at_, .slice Au bs.length cu]) (by simp) 1; simp only [List.getElem?_toArray, List.getElem?_cons_succ, List.getElem?_cons_zero] at m1)
          | (go_at_call 14; (with_reducible refine (same_c H1.out HNL.out HD2.out).mono ?_); rintro e w2 ⟨rfl, hS⟩; have H2 := Lib.hid hS; clear hS m0 m1; have n0 := H2.out.cellOf (g := g) (t := 33) (cs := #[.int .i64 9, .string (bstr n), .string (bstr to), .int .i64 at_, .slice Au bs.length cu]) (by simp) 0; simp only [List.getElem?_toArray, List.getElem?_cons_zero] at n0; have n1 := H2.out.cellOf (g := g) (t := 33) (cs := #[.int .i64 9, .string (bstr n), .string (bstr to), .int .i64 at_, .slice Au bs.length cu]) (by simp) 1; simp only [List.getElem?_toArray, List.getElem?_cons_succ, List.getElem?_cons_zero] at n1)
          | (go_at_call 31; (with_reducible refine (clone_c H2.out HNM.out).mono ?_); rintro e w3 ⟨c3, rfl, hS⟩; have H3 := Lib.hid hS; clear hS n0 n1; have o1 := H3.out.cellOf (g := g) (t := 33) (cs := #[.int .i64 9, .string (bstr n), .string (bstr to), .int .i64 at_, .slice Au bs.length cu]) (by simp) 1; simp only [List.getElem?_toArray, List.getElem?_cons_succ, List.getElem?_cons_zero] at o1)
          | (go_at_call 23; (with_reducible refine (HCO.out _ _ _ _ H3.out.swap).mono ?_); rintro e w4 ⟨rfl, hS⟩; have H4 := Lib.hid hS; clear hS o1; have x1 := H4.out.cellOf (g := g) (t := 33) (cs := #[.int .i64 9, .string (bstr n), .string (bstr to), .int .i64 at_, .slice Au bs.length cu]) (by simp) 1; simp only [List.getElem?_toArray, List.getElem?_cons_succ, List.getElem?_cons_zero] at x1)
          | (go_at_call 24; (with_reducible refine (append_c (lit_later H4.out #[.int .u8 9] 5) HNL2.out (Bs.lit w4 #[.int .u8 9] [9] 1 rfl rfl (by unfold big; decide)) (by decide)).mono ?_); rintro e w5 ⟨rfl, hS⟩; have H5 := Lib.hid hS; clear hS x1; have y1 := H5.out.cellOf (g := g) (t := 33) (cs := #[.int .i64 9, .string (bstr n), .string (bstr to), .int .i64 at_, .slice Au bs.length cu]) (by simp) 1; simp only [List.getElem?_toArray, List.getElem?_cons_succ, List.getElem?_cons_zero] at y1)
          | (go_at_call 29; (with_reducible refine (remove_c H5.out HNL2.out).mono ?_); rintro e w6 ⟨rfl, hS⟩; have H6 := Lib.hid hS.drop; clear hS y1))
        go_roundw
        case rel => exact ⟨q + 1, c3, d', by omega, by go_num, rfl, HD2.out, H6.out.rot3.drop⟩
        case measure => simp [intOf]; omega
      · skip
        go_wp2_with (first
          | (go_at_call 11; (with_reducible refine (HDO.out _ _ HS0.out.rot3.rot3).mono ?_); rintro e w1 ⟨rfl, hS⟩; have H1 := Lib.hid hS; clear hS k0 k1 k2 k3 k4; generalize wr.heap.size = g at *; have m0 := H1.out.cellOf (g := g) (t := 33) (cs := #[.int .i64 ok, .string (bstr n), .string (bstr to), .int .i64 at_, .slice Au bs.length cu]) (by simp) 0; simp only [List.getElem?_toArray, List.getElem?_cons_zero] at m0; have m1 := H1.out.cellOf (g := g) (t := 33) (cs := #[.int .i64 ok, .string (bstr n), .string (bstr to), .int .i64 at_, .slice Au bs.length cu]) (by simp) 1; simp only [List.getElem?_toArray, List.getElem?_cons_succ, List.getElem?_cons_zero] at m1)
          | (go_at_call 14; (with_reducible refine (same_c H1.out HNL.out HD2.out).mono ?_); rintro e w2 ⟨rfl, hS⟩; have H2 := Lib.hid hS; clear hS m0 m1; have n0 := H2.out.cellOf (g := g) (t := 33) (cs := #[.int .i64 ok, .string (bstr n), .string (bstr to), .int .i64 at_, .slice Au bs.length cu]) (by simp) 0; simp only [List.getElem?_toArray, List.getElem?_cons_zero] at n0; have n1 := H2.out.cellOf (g := g) (t := 33) (cs := #[.int .i64 ok, .string (bstr n), .string (bstr to), .int .i64 at_, .slice Au bs.length cu]) (by simp) 1; simp only [List.getElem?_toArray, List.getElem?_cons_succ, List.getElem?_cons_zero] at n1))
        go_roundw
        case rel => exact ⟨q + 1, p, d', by omega, by go_num, rfl, HD2.out, H2.out.rot3.drop⟩
        case measure => simp [intOf]; omega
    · have hqi : ¬ (q : Int) < L.length := by omega
      have HSA := Lib.hid (show Calls Try.prog 14 #[.pointer (some ⟨p, 0, none⟩), .pointer (some ⟨r, 0, none⟩), .string ⟨#[97]⟩] wr fun e w' => e = .returned (.bool true) ∧ St W w' [aDisk p d, aRdk r d] from same_c (n := [97]) HS.out (by decide) HD.out)
      go_wp2_with (first
        | (go_at_call 14; (with_reducible refine (HSA.out).mono ?_); rintro e w2 ⟨rfl, hS⟩; have H2 := Lib.hid hS; clear hS))
      go_ret
      exact ⟨rfl, H2.out.b⟩
end
end Go.Proofs.Ytnpjfjgnhadmjaa

/- DiskDoes: for every room and every list of operations of bulk at most 1048576 the law returns true and leaves what it was handed as it was. -/
namespace Go.Proofs.Ytnpjfjgnhadmjaa
open Go.ChangeShapes Go.WideShapes Go.ChangeAt Go.RowKit Go.Deep Go.Joins
set_option linter.unusedVariables false

theorem diskDoes_own : ownKnob Try.prog.godebug = none := by kernel_rfl
theorem diskDoes_laid : laidOutB Try.prog = true := by kernel_rfl

set_option maxRecDepth 100000 in
theorem diskDoes_contract (H : Type) (enc : TypeId × Value → H) (W : World) (base : Nat) (args : Array Value) (ds gs : List (DataW H)) (before : List MemPlace)
    (hval : ∀ (j : Nat) t v, Try.f6.params[j]? = some t → args[j]? = some v → Value.okWide Try.prog W .any base t v)
    (hW : DataW.Whole enc Try.prog Try.f6.params.toList Rows.diskDoesSpec.vars false W args.toList ds gs before) (hk : Rows.uptoSmall H (ds ++ gs) = true) :
    Calls Try.prog 6 args W fun e W' => ∃ v, e = .returned v ∧ Rows.diskDoesSpec.post enc Try.prog Try.f6 false true false false W args v W' := by
  have hW' := hW
  obtain ⟨p, q, hA0, hV, rfl, hfz, hnd⟩ := hW
  have hA : DataW.TrodAll enc Try.prog W 0 (fun _ => true) true Try.f6.params.toList args.toList ds p := hA0
  rw [Try.params6] at hA hval
  obtain ⟨rfl, rfl⟩ := trodVars_none hV
  have hB := uptoBound hk
  rw [List.append_nil] at hB
  obtain ⟨v0, vs0, d0, ds0, p0, q0, hargs, rfl, rfl, h0, r0⟩ := trodAll_cons hA
  obtain ⟨v1, vs1, d1, ds1, p1, q1, rfl, rfl, rfl, h1, r1⟩ := trodAll_cons r0
  obtain ⟨rfl, rfl, rfl⟩ := trodAll_nil r1
  obtain rfl : args = #[v0, v1] := by cases args; simp_all
  simp only [Rows.uptoBulkAll] at hB
  obtain ⟨n0, rfl, rfl, rfl, wn⟩ := open_int Try.underlying3 (hval 0 3 v0 rfl rfl) h0
  obtain ⟨L, hL⟩ := open_ops Try.underlying22 Try.underlying33 (by kernel_rfl) ⟨rfl, by kernel_rfl, Try.underlying3⟩ ⟨rfl, by kernel_rfl, Try.underlying9⟩ ⟨rfl, by kernel_rfl, Try.underlying9⟩ ⟨rfl, by kernel_rfl, Try.underlying3⟩ ⟨rfl, by kernel_rfl, Try.underlying31⟩ Try.underlying5 (by kernel_rfl) (hval 1 22 v1 rfl rfl) h1 (by omega)

  refine (diskDoes_walk hL).mono fun e W' ⟨he, hg⟩ => ?_
  subst he
  exact ⟨_, rfl, law_post diskDoes_laid (by kernel_rfl) rfl ⟨rfl, rfl, rfl⟩ (tb := 4) (by kernel_rfl) Try.underlying4 hW' hg⟩

set_option maxRecDepth 100000 in
theorem diskDoes_lifted (os : Os) (started : os.Started) (H : Type) (enc : TypeId × Value → H) (F : Stop.Interp) :
    ReturnsInHanded {} Try.checked os 6 .any ((Rows.OpenSpec.upto Rows.diskDoesSpec).pre6 enc Try.prog Try.f6 Rows.diskDoesUptoRow.domain false) (((Rows.OpenSpec.upto Rows.diskDoesSpec).at F).post enc Try.prog Try.f6 false true false false) := by
  refine returnsInHanded_of_cond (C := Try.checked) (s := Rows.OpenSpec.upto Rows.diskDoesSpec) (k := Rows.uptoSmall) rfl diskDoes_own started (by kernel_rfl) Try.func6
    (OpenSpec.witness (enc := enc) (C := Try.checked) (s := Rows.OpenSpec.upto Rows.diskDoesSpec) (k := Rows.uptoSmall) rfl false ⟨#[], #[.int .i64 0, .slice none 0 0], []⟩ 8 (by kernel_rfl) (by kernel_rfl) (by kernel_rfl)
      (x := ([.lit (.int .i64 0), .nil], [], [])) (by kernel_rfl) rfl (by kernel_rfl)) ?_
  intro W base args ds gs before hval hW _ hk _
  exact diskDoes_contract H enc W base args ds gs before hval hW hk

theorem diskDoesUpto_holds : Rows.DiskDoesUptoSaid :=
  OpenClaim.holds_of_cond 6 Try.f6 rfl rfl rfl rfl rfl rfl rfl ⟨rfl, rfl, rfl, rfl, rfl⟩ rfl rfl rfl rfl rfl (by kernel_rfl) Try.func6 (by kernel_rfl)
    (of_decide_eq_true (by kernel_rfl)) (by unfold Func.isWrapper; first | (rw [if_pos (by decide +kernel)]; kernel_rfl) | (rw [if_neg (by decide +kernel)]; exact ⟨rfl, rfl⟩))
    (fun os started H enc _ F => diskDoes_lifted os started H enc F)

end Go.Proofs.Ytnpjfjgnhadmjaa
