/- DiskNone: for every byte string of bulk at most 1048576 the law returns true and leaves what it was handed as it was. -/
import Derived.Test.YtnpjfjgnhadmjaaZb3
import Derived.Maps.Views
/- DiskRefuses: the walk. -/
namespace Go.Proofs.Ytnpjfjgnhadmjaa
open Go.RowKit Go.Maps Go.Deep
set_option linter.unusedVariables false

section
variable {W w : World} {p r : Nat} {d : Dk} {X : List Asn} {n : List UInt8} {A C D : Asn}
theorem St.swap2 (h : St W w (A :: C :: D :: X)) : St W w (A :: D :: C :: X) := h.perm (List.Perm.cons _ (List.Perm.swap _ _ _))
theorem turn_room (g : Fl → Int × Fl) : (turnF d n g).2.room = d.room := by
  unfold turnF
  repeat' split
  all_goals rfl
theorem step_room (d : Dk) (o : OpV) : (stepF d o).2.room = d.room := by
  unfold stepF
  split; · unfold createF; repeat' split
           all_goals rfl
  split; · exact turn_room _
  split; · exact turn_room _
  split; · exact turn_room _
  split; · unfold renameF; repeat' split
           all_goals rfl
  split; · exact turn_room _
  split; · unfold removeF; repeat' split
           all_goals rfl
  split; · unfold crashF; split <;> rfl
  split; · unfold restartF; split <;> rfl
  rfl
theorem nm_empty (k : Int) (o : Bool) : nmOk ⟨[], k, o⟩ := fun f hf => by cases hf
set_option maxRecDepth 20000 in
set_option maxHeartbeats 4000000 in
theorem diskRefuses_walk {W : World} {v : Value} {L : List OpV} {k : Nat} (hk : k ≤ 255) (hL : Ops W v L) :
    Calls Try.prog 3 #[.int .u8 (k : Int), v] W fun e w' => e = .returned (.bool true) ∧ B W w' := by
  obtain ⟨A, c, rfl, hm1, hr⟩ := hL
  have HR := Lib.hid hr
  have HK := Lib.hid (show ¬ ((k : Int) < 0 ∨ 4194304 < (k : Int)) by omega)
  have q1 : IntKind.i64.wrap (k : Int) = (k : Int) := by simp [IntKind.wrap, IntKind.signed, IntKind.bits]; omega
  have hs : (L.length : Int) ≤ 9223372036854775807 := by omega
  have HKE := Lib.hid hk
  clear hr hm1 hk
  go_enter Try.func3, Try.ntmps3
  go_wp2_with (first
    | (go_at_call 7; (with_reducible refine (live_c (St.nil W)).mono ?_); rintro e w1 ⟨rfl, hS⟩; have HS1 := Lib.hid hS; clear hS)
    | (go_at_call 8; (with_reducible refine (new_yes HS1.out HK.out).mono ?_); rintro e w2 ⟨p, rfl, hS⟩; have HS2 := Lib.hid hS; clear hS)
    | (go_at_call 9; (with_reducible refine (rnew_yes HS2.out HK.out).mono ?_); rintro e w3 ⟨r, rfl, hS⟩; have HS3 := Lib.hid hS.swap; clear hS))
  go_loopw [35] (fun i wr => ∃ (q : Nat) (d : Dk), q ≤ L.length ∧ i = .int .i64 (q : Int) ∧ Hid (nmOk d ∧ d.room = (k : Int)) ∧ Hid (St W wr [aDisk p d, aRdk r d])) (fun i _ => L.length - (intOf i).toNat)
  case atStart => exact ⟨0, _, Nat.zero_le _, rfl, ⟨nm_empty _ _, rfl⟩, HS3.out⟩
  case round =>
    obtain ⟨q, d, hq, rfl, HD, HS⟩ := hrel
    clear HS1 HS2 HS3
    by_cases hlt : q < L.length
    · obtain ⟨b, off, rfl, hbl, hc⟩ := HR.out (by omega)
      obtain ⟨hok, _, hcells⟩ := hc q _ (List.getElem?_eq_getElem hlt)
      have hqi : (q : Int) < L.length := by omega
      generalize L[q] = o at *
      obtain ⟨d', hd'⟩ : ∃ d', (stepF d o).2 = d' := ⟨_, rfl⟩
      have HD2 := Lib.hid (show nmOk d' ∧ d'.room = (k : Int) by rw [← hd']; exact ⟨nm_step HD.out.1 hok, (step_room d o).trans HD.out.2⟩)
      have hdk : d.ok := aRdk.ok HS.out.swap
      have hdk' : d'.ok := by rw [← hd']; exact step_ok hdk o
      obtain ⟨us, hus⟩ : ∃ us : Int, ((usedF d'.R : Nat) : Int) = us := ⟨_, rfl⟩
      have hus2 : us ≤ (k : Int) := by rw [← hus, ← HD2.out.2]; exact hdk'.used
      have HUS := Lib.hid hus
      have HSM := Lib.hid (fun (h : askedF d o = true) => show d' = d by rw [← hd']; exact asked_same h)
      have HDO := Lib.hid (fun (w' : World) (Y : List Asn) (h : St W w' (aDisk p d :: aRdk r d :: Y)) => does_c h hok)
      have HRE := Lib.hid (fun (w' : World) (Y : List Asn) (x : Nat) (h : St W w' (aRdk x d :: Y)) => refused_c h hok)
      have HNL := Lib.hid hok.n
      obtain ⟨Au, cu, hux⟩ := hok.u.rd.slice
      rw [hd'] at HDO
      obtain ⟨ask, hask⟩ : ∃ ask, askedF d o = ask := ⟨_, rfl⟩
      rw [hask] at HRE HSM
      clear hask hd' hok hdk hdk' hus hc
      obtain ⟨ok, n, to, at_, u, bs⟩ := o
      simp only at hux HDO HRE HSM HNL
      subst hux
      unfold OpV.cells at HDO HRE hcells
      simp only at HDO HRE hcells
      have k0 : wr.cell? ⟨b, off + q * 5 + 0, none⟩ = some (.int .i64 ok) := HS.out.b.cell (hcells 0 _ rfl)
      have k1 : wr.cell? ⟨b, off + q * 5 + 1, none⟩ = some (.string (bstr n)) := HS.out.b.cell (hcells 1 _ rfl)
      have k2 : wr.cell? ⟨b, off + q * 5 + 2, none⟩ = some (.string (bstr to)) := HS.out.b.cell (hcells 2 _ rfl)
      have k3 : wr.cell? ⟨b, off + q * 5 + 3, none⟩ = some (.int .i64 at_) := HS.out.b.cell (hcells 3 _ rfl)
      have k4 : wr.cell? ⟨b, off + q * 5 + 4, none⟩ = some (.slice Au bs.length cu) := HS.out.b.cell (hcells 4 _ rfl)
      simp only [Nat.add_zero] at k0
      have HS0 := Lib.hid (aBlk.new HS.out 33 #[.int .i64 ok, .string (bstr n), .string (bstr to), .int .i64 at_, .slice Au bs.length cu])
      clear hcells
      cases ask with
      | false =>
        go_wp2_with (first
          | (go_at_call 10; (with_reducible refine (rclone_c HS0.out.rot3).mono ?_); rintro e w1 ⟨c1, rfl, hS⟩; have H1 := Lib.hid hS.rot4.swap2; clear hS k0 k1 k2 k3 k4; generalize wr.heap.size = g at *; have m0 := H1.out.cellOf (g := g) (t := 33) (cs := #[.int .i64 ok, .string (bstr n), .string (bstr to), .int .i64 at_, .slice Au bs.length cu]) (by simp) 0; simp only [List.getElem?_toArray, List.getElem?_cons_zero] at m0; have m1 := H1.out.cellOf (g := g) (t := 33) (cs := #[.int .i64 ok, .string (bstr n), .string (bstr to), .int .i64 at_, .slice Au bs.length cu]) (by simp) 1; simp only [List.getElem?_toArray, List.getElem?_cons_succ, List.getElem?_cons_zero] at m1; have m2 := H1.out.cellOf (g := g) (t := 33) (cs := #[.int .i64 ok, .string (bstr n), .string (bstr to), .int .i64 at_, .slice Au bs.length cu]) (by simp) 2; simp only [List.getElem?_toArray, List.getElem?_cons_succ, List.getElem?_cons_zero] at m2; have m3 := H1.out.cellOf (g := g) (t := 33) (cs := #[.int .i64 ok, .string (bstr n), .string (bstr to), .int .i64 at_, .slice Au bs.length cu]) (by simp) 3; simp only [List.getElem?_toArray, List.getElem?_cons_succ, List.getElem?_cons_zero] at m3; have m4 := H1.out.cellOf (g := g) (t := 33) (cs := #[.int .i64 ok, .string (bstr n), .string (bstr to), .int .i64 at_, .slice Au bs.length cu]) (by simp) 4; simp only [List.getElem?_toArray, List.getElem?_cons_succ, List.getElem?_cons_zero] at m4)
          | (go_at_call 11; (with_reducible refine (HDO.out _ _ H1.out).mono ?_); rintro e w2 ⟨rfl, hS⟩; have H2 := Lib.hid hS; clear hS m0 m1 m2 m3 m4)
          | (go_at_call 12; (with_reducible refine (usedD_c H2.out).mono ?_); rintro e w3 ⟨rfl, hb3⟩; rw [HUS.out]; have H3 := Lib.hid (H2.out.later hb3); clear hb3)
          | (go_at_call 10; (with_reducible refine (rclone_c H3.out.rot3).mono ?_); rintro e w4 ⟨c4, rfl, hS⟩; have H4 := Lib.hid hS; clear hS; have n0 := H4.out.cellOf (g := g) (t := 33) (cs := #[.int .i64 ok, .string (bstr n), .string (bstr to), .int .i64 at_, .slice Au bs.length cu]) (by simp) 0; simp only [List.getElem?_toArray, List.getElem?_cons_zero] at n0; have n1 := H4.out.cellOf (g := g) (t := 33) (cs := #[.int .i64 ok, .string (bstr n), .string (bstr to), .int .i64 at_, .slice Au bs.length cu]) (by simp) 1; simp only [List.getElem?_toArray, List.getElem?_cons_succ, List.getElem?_cons_zero] at n1; have n2 := H4.out.cellOf (g := g) (t := 33) (cs := #[.int .i64 ok, .string (bstr n), .string (bstr to), .int .i64 at_, .slice Au bs.length cu]) (by simp) 2; simp only [List.getElem?_toArray, List.getElem?_cons_succ, List.getElem?_cons_zero] at n2; have n3 := H4.out.cellOf (g := g) (t := 33) (cs := #[.int .i64 ok, .string (bstr n), .string (bstr to), .int .i64 at_, .slice Au bs.length cu]) (by simp) 3; simp only [List.getElem?_toArray, List.getElem?_cons_succ, List.getElem?_cons_zero] at n3; have n4 := H4.out.cellOf (g := g) (t := 33) (cs := #[.int .i64 ok, .string (bstr n), .string (bstr to), .int .i64 at_, .slice Au bs.length cu]) (by simp) 4; simp only [List.getElem?_toArray, List.getElem?_cons_succ, List.getElem?_cons_zero] at n4)
          | (go_at_call 13; (with_reducible refine (HRE.out _ _ _ H4.out).mono ?_); rintro e w5 ⟨rfl, d2, hS⟩; have H5 := Lib.hid hS.drop.drop.rot3.drop; clear hS n0 n1 n2 n3 n4))
        go_roundw
        case rel => exact ⟨q + 1, d', by omega, by go_num, HD2.out, H5.out⟩
        case measure => simp [intOf]; omega
      | true =>
        obtain rfl := HSM.out rfl
        go_wp2_with (first
          | (go_at_call 10; (with_reducible refine (rclone_c HS0.out.rot3).mono ?_); rintro e w1 ⟨c1, rfl, hS⟩; have H1 := Lib.hid hS.rot4.swap2; clear hS k0 k1 k2 k3 k4; generalize wr.heap.size = g at *; have m0 := H1.out.cellOf (g := g) (t := 33) (cs := #[.int .i64 ok, .string (bstr n), .string (bstr to), .int .i64 at_, .slice Au bs.length cu]) (by simp) 0; simp only [List.getElem?_toArray, List.getElem?_cons_zero] at m0; have m1 := H1.out.cellOf (g := g) (t := 33) (cs := #[.int .i64 ok, .string (bstr n), .string (bstr to), .int .i64 at_, .slice Au bs.length cu]) (by simp) 1; simp only [List.getElem?_toArray, List.getElem?_cons_succ, List.getElem?_cons_zero] at m1; have m2 := H1.out.cellOf (g := g) (t := 33) (cs := #[.int .i64 ok, .string (bstr n), .string (bstr to), .int .i64 at_, .slice Au bs.length cu]) (by simp) 2; simp only [List.getElem?_toArray, List.getElem?_cons_succ, List.getElem?_cons_zero] at m2; have m3 := H1.out.cellOf (g := g) (t := 33) (cs := #[.int .i64 ok, .string (bstr n), .string (bstr to), .int .i64 at_, .slice Au bs.length cu]) (by simp) 3; simp only [List.getElem?_toArray, List.getElem?_cons_succ, List.getElem?_cons_zero] at m3; have m4 := H1.out.cellOf (g := g) (t := 33) (cs := #[.int .i64 ok, .string (bstr n), .string (bstr to), .int .i64 at_, .slice Au bs.length cu]) (by simp) 4; simp only [List.getElem?_toArray, List.getElem?_cons_succ, List.getElem?_cons_zero] at m4)
          | (go_at_call 11; (with_reducible refine (HDO.out _ _ H1.out).mono ?_); rintro e w2 ⟨rfl, hS⟩; have H2 := Lib.hid hS; clear hS m0 m1 m2 m3 m4)
          | (go_at_call 12; (with_reducible refine (usedD_c H2.out).mono ?_); rintro e w3 ⟨rfl, hb3⟩; rw [HUS.out]; have H3 := Lib.hid (H2.out.later hb3); clear hb3)
          | (go_at_call 10; (with_reducible refine (rclone_c H3.out.rot3).mono ?_); rintro e w4 ⟨c4, rfl, hS⟩; have H4 := Lib.hid hS; clear hS; have n0 := H4.out.cellOf (g := g) (t := 33) (cs := #[.int .i64 ok, .string (bstr n), .string (bstr to), .int .i64 at_, .slice Au bs.length cu]) (by simp) 0; simp only [List.getElem?_toArray, List.getElem?_cons_zero] at n0; have n1 := H4.out.cellOf (g := g) (t := 33) (cs := #[.int .i64 ok, .string (bstr n), .string (bstr to), .int .i64 at_, .slice Au bs.length cu]) (by simp) 1; simp only [List.getElem?_toArray, List.getElem?_cons_succ, List.getElem?_cons_zero] at n1; have n2 := H4.out.cellOf (g := g) (t := 33) (cs := #[.int .i64 ok, .string (bstr n), .string (bstr to), .int .i64 at_, .slice Au bs.length cu]) (by simp) 2; simp only [List.getElem?_toArray, List.getElem?_cons_succ, List.getElem?_cons_zero] at n2; have n3 := H4.out.cellOf (g := g) (t := 33) (cs := #[.int .i64 ok, .string (bstr n), .string (bstr to), .int .i64 at_, .slice Au bs.length cu]) (by simp) 3; simp only [List.getElem?_toArray, List.getElem?_cons_succ, List.getElem?_cons_zero] at n3; have n4 := H4.out.cellOf (g := g) (t := 33) (cs := #[.int .i64 ok, .string (bstr n), .string (bstr to), .int .i64 at_, .slice Au bs.length cu]) (by simp) 4; simp only [List.getElem?_toArray, List.getElem?_cons_succ, List.getElem?_cons_zero] at n4)
          | (go_at_call 13; (with_reducible refine (HRE.out _ _ _ H4.out).mono ?_); rintro e w5 ⟨rfl, d2, hS⟩; have H5 := Lib.hid hS.rot3.swap2; clear hS n0 n1 n2 n3 n4; have o1 := H5.out.cellOf (g := g) (t := 33) (cs := #[.int .i64 ok, .string (bstr n), .string (bstr to), .int .i64 at_, .slice Au bs.length cu]) (by simp) 1; simp only [List.getElem?_toArray, List.getElem?_cons_succ, List.getElem?_cons_zero] at o1)
          | (go_at_call 14; (with_reducible refine (same_c H5.out HNL.out HD.out.1).mono ?_); rintro e w6 ⟨rfl, hS⟩; have H6 := Lib.hid hS; clear hS))
        go_roundw
        case rel => exact ⟨q + 1, d', by omega, by go_num, HD2.out, H6.out.drop2.drop2.rot3.drop⟩
        case measure => simp [intOf]; omega
    · have hqi : ¬ (q : Int) < L.length := by omega
      go_wp2_with fail
      go_ret
      exact ⟨rfl, HS.out.b⟩
end
end Go.Proofs.Ytnpjfjgnhadmjaa

/- Maps of byte slices and of numbers as objects; what Get and Synced say of the i-th file. -/
namespace Go.Proofs.Ytnpjfjgnhadmjaa
open Go.RowKit Go.Maps Go.Deep
set_option linter.unusedVariables false

/-- a map as an object, whatever its elements -/
def aMapR (P : Program) (k : TypeId) (R : Value → Option (DataW Unit × List MemPlace)) (m : Nat) (D : DataW Unit) : Asn where
  at_ own w := own m ∧ ∃ n, w.ownsMap P k R m n D
  ext h hx hd := by
    obtain ⟨h1, n, es, clock, hb, r⟩ := h
    exact ⟨h1, n, es, clock, (hx.block m (Array.getElem?_eq_some_iff.1 hb).1 (hd _ h1)).trans hb, r⟩
  bound h := by
    obtain ⟨h1, n, h2⟩ := h
    exact ⟨⟨h1, h2.lt⟩, n, h2⟩
/-- elements that are slices or numbers, told whole -/
def valElem : Value → Option (DataW Unit × List MemPlace)
  | .slice none l c => some (.agg [.nil, .lit (.int .i64 (l : Int)), .lit (.int .i64 (c : Int))], [])
  | .slice (some ⟨g, o, none⟩) l c => some (.agg [.lit (.int .i64 (g : Int)), .lit (.int .i64 (o : Int)), .lit (.int .i64 (l : Int)), .lit (.int .i64 (c : Int))], [])
  | .int .i64 k => some (.lit (.int .i64 k), [])
  | _ => none
theorem valElem_inj {v u : Value} {y : DataW Unit} {p q : List MemPlace} (h : valElem v = some (y, p)) (k : valElem u = some (y, q)) : v = u := by
  unfold valElem at h k
  split at h <;> split at k <;> simp_all
  all_goals
    obtain ⟨h1, _⟩ := h
    obtain ⟨k1, _⟩ := k
    rw [← h1] at k1
    simp at k1 <;> first
      | omega
      | (simp_all; done)
      | (simp_all; omega)
theorem valElem_some {w : World} {base sz n : Nat} {e : TypeId} {v : Value} {xs : List Value} (h : w.ownsRow base e sz v n xs) : ∃ y, valElem v = some (y, []) := by
  rcases h.2 with ⟨rfl, _⟩ | ⟨g, cap, cur, rfl, _⟩
  · exact ⟨_, rfl⟩
  · exact ⟨_, rfl⟩
section
variable {W w : World} {P : Program} {k e T : TypeId} {R : Value → Option (DataW Unit × List MemPlace)} {m : Nat} {D : DataW Unit} {L : List Asn}
theorem aMapR.new (h : St W w L) : St W (w.alloc (.map #[] 0)) (aMapR P k R w.heap.size (.map []) :: L) :=
  h.add (B.alloc' _ _) (A := aMapR P k R w.heap.size (.map [])) (own := fun x => x = w.heap.size) ⟨rfl, 0, World.ownsMap_made w P k R⟩ (fun x e => by omega)
theorem aMapR.look (h : St W w (aMapR P k R m D :: L)) (K : Keyed P k) (ht : P.underlying T = some (.map k e)) {z : Value} (hz : (zeroValue e).run P w = .ok z w) {zd : DataW Unit} {zp : List MemPlace} (hzd : R z = some (zd, zp)) {key : Value} {kl : Lit} (hkey : keyOf P k key = some kl) :
    ∃ v ps, (Instr.lookup T (.map (some m)) key false).run P w = .ok v w ∧ R v = some (D.atKey kl zd, ps) := by
  obtain ⟨own, ⟨h1, n, hn⟩, _⟩ := h.get
  exact hn.lookup K ht hz hzd hkey
theorem aMapR.store (h : St W w (aMapR P k R m D :: L)) {N : Nat} (hD : ∃ E, D = .map E ∧ E.length ≤ N) (hN : N < maxLen) (K : Keyed P k) (ht : P.underlying T = some (.map k e)) {key val : Value} {kl : Lit} {d : DataW Unit} {ps : List MemPlace} (hkey : keyOf P k key = some kl) (hv : R val = some (d, ps)) :
    ∃ w', (Instr.mapUpdate T (.map (some m)) key val).run P w = .ok () w' ∧ St W w' (aMapR P k R m (D.put kl d) :: L) ∧ ∃ E, D.put kl d = .map E ∧ E.length ≤ N + 1 := by
  obtain ⟨own, ⟨h1, n, h2⟩, ho, hback⟩ := h.focus
  obtain ⟨E, rfl, hE⟩ := hD
  obtain ⟨w', r1, r2, r3⟩ := (ownsMap_tight h2).store K ht (by omega) hkey hv
  refine ⟨w', r1, hback w' (aMapR P k R m _) (Ext.of_grown r3.grown (fun x hx => by injection hx with hx; rw [← hx]; exact h1)) ⟨.inl h1, _, r2⟩, ?_⟩
  refine ⟨_, rfl, ?_⟩
  have := List.length_filter_le (fun p : Lit × DataW Unit => !p.1.sameKey kl) E
  rw [length_insert]
  omega
end
section
variable {d : Dk} {i : Nat} {f : Fl} {k : Int}
theorem may_at (h : d.ok) (ho : d.off = false) (hf : d.R[i]? = some f) : mayF d f.nm = (some i, 0) := by
  have hi : ixF f.nm d.R = some i := ixF_of hf rfl fun j hj g hg e => by
    have hil := at_lt hf
    have hjl := at_lt hg
    have := (List.pairwise_iff_getElem.1 h.rise) j i hjl hil hj
    rw [List.getElem?_eq_getElem hjl] at hg
    rw [List.getElem?_eq_getElem hil] at hf
    rw [Option.some.inj hg, Option.some.inj hf, e, bb_irr] at this
    cases this
  unfold mayF
  rw [ho, hi]
  rfl
theorem get_at (h : d.ok) (ho : d.off = false) (hf : d.R[i]? = some f) : getF d f.nm = (f.b, 0) := by
  unfold getF
  rw [may_at h ho hf]
  simp only
  rw [hf]
  rfl
theorem synced_at (h : d.ok) (ho : d.off = false) (hf : d.R[i]? = some f) : syncedF d f.nm = (f.sure, 0) := by
  unfold syncedF
  rw [may_at h ho hf]
  simp only
  rw [hf]
  rfl
theorem names_ne (h : d.ok) {j : Nat} {g : Fl} (hf : d.R[i]? = some f) (hg : d.R[j]? = some g) (hj : j < i) : Lit.string g.nm ≠ .string f.nm := fun e => by
  have hil := at_lt hf
  have hjl := at_lt hg
  have := (List.pairwise_iff_getElem.1 h.rise) j i hjl hil hj
  rw [List.getElem?_eq_getElem hjl] at hg
  rw [List.getElem?_eq_getElem hil] at hf
  rw [Option.some.inj hg, Option.some.inj hf, Lit.string.inj e, bb_irr] at this
  cases this
/-- what 'had' and 'done' say behind q rounds -/
structure Had (d : Dk) (q : Nat) (vs : List Value) (D1 D2 : DataW Unit) : Prop where
  len : vs.length = q
  had : ∀ (i : Nat) (f : Fl) (v : Value), i < q → d.R[i]? = some f → vs[i]? = some v → ∃ y, valElem v = some (y, []) ∧ ∀ z, D1.atKey (.string f.nm) z = y
  done : ∀ (i : Nat) (f : Fl), i < q → d.R[i]? = some f → ∀ z, D2.atKey (.string f.nm) z = .lit (.int .i64 (f.sure : Int))
  e1 : ∃ E, D1 = .map E ∧ E.length ≤ q
  e2 : ∃ E, D2 = .map E ∧ E.length ≤ q
theorem Had.start (d : Dk) : Had d 0 [] (.map []) (.map []) := ⟨rfl, fun i f v h => by omega, fun i f h => by omega, ⟨_, rfl, Nat.le_refl _⟩, ⟨_, rfl, Nat.le_refl _⟩⟩
theorem Had.step {q : Nat} {vs : List Value} {D1 D2 : DataW Unit} (h : Had d q vs D1 D2) (hd : d.ok) (hf : d.R[q]? = some f) {v : Value} {y : DataW Unit} (hv : valElem v = some (y, []))
    (h1 : ∃ E, D1.put (.string f.nm) y = .map E ∧ E.length ≤ q + 1) (h2 : ∃ E, D2.put (.string f.nm) (.lit (.int .i64 (f.sure : Int))) = .map E ∧ E.length ≤ q + 1) :
    Had d (q + 1) (vs ++ [v]) (D1.put (.string f.nm) y) (D2.put (.string f.nm) (.lit (.int .i64 (f.sure : Int)))) := by
  obtain ⟨hl, a1, a2, ⟨E1, e1, _⟩, ⟨E2, e2, _⟩⟩ := h
  refine ⟨by simp [hl], fun i g u hi hg hu => ?_, fun i g hi hg z => ?_, h1, h2⟩
  · by_cases e : i = q
    · subst e
      rw [hf] at hg
      obtain rfl := Option.some.inj hg
      rw [List.getElem?_append_right (by omega), hl, Nat.sub_self] at hu
      obtain rfl := Option.some.inj hu
      exact ⟨y, hv, fun z => atKey_put_same ⟨_, e1⟩ (by trivial) _ _⟩
    · rw [List.getElem?_append_left (by omega)] at hu
      obtain ⟨y2, k1, k2⟩ := a1 i g u (by omega) hg hu
      exact ⟨y2, k1, fun z => by rw [atKey_put_other (names_ne hd hf hg (by omega))]; exact k2 z⟩
  · by_cases e : i = q
    · subst e
      rw [hf] at hg
      obtain rfl := Option.some.inj hg
      exact atKey_put_same ⟨_, e2⟩ (by trivial) _ _
    · rw [atKey_put_other (names_ne hd hf hg (by omega))]
      exact a2 i g (by omega) hg z
end
end Go.Proofs.Ytnpjfjgnhadmjaa

/- A disk that no call made: nil, or of zero value. -/
namespace Go.Proofs.Ytnpjfjgnhadmjaa
open Go.RowKit Go.Maps Go.Deep
set_option linter.unusedVariables false

def Bad (w : World) (v : Value) : Prop := v = .pointer none ∨ ∃ p, v = .pointer (some ⟨p, 0, none⟩) ∧ Blk w p 58 #[.int .i64 0, .map none, .bool false]
section
variable {w : World} {v u s t : Value} {k : Int}
theorem none_bad (h : Bad w v) : Calls Try.prog 43 #[v] w fun e w' => e = .returned (.bool true) ∧ w = w' := by
  rcases h with rfl | ⟨p, rfl, h⟩
  · go_enter Try.func43, Try.ntmps43
    go_wp2
    go_ret
    exact ⟨rfl, rfl⟩
  · have c1 := h.cell 1
    simp at c1
    have q1 : ∀ w, (binOp .eql 56 (.map none) (.map none)).run Try.prog w = .ok (.bool true) w := fun w => by kernel_rfl
    clear h
    go_enter Try.func43, Try.ntmps43
    go_wp2
    go_ret
    exact ⟨rfl, rfl⟩
set_option maxRecDepth 20000 in
theorem can_bad (h : Bad w v) : Calls Try.prog 52 #[v] w fun e w' => e = .returned (.int .i64 2) ∧ w = w' := by
  have HN := Lib.hid (none_bad h)
  clear h
  go_enter Try.func52, Try.ntmps52
  go_wp2_with (first
    | (go_at_call 43; (with_reducible refine HN.out.mono ?_); rintro e w1 ⟨rfl, rfl⟩))
  go_ret
  exact ⟨rfl, rfl⟩
set_option maxRecDepth 20000 in
theorem find_bad (h : Bad w v) : Calls Try.prog 50 #[v, s] w fun e w' => e = .returned (.tuple #[.pointer none, .int .i64 2]) ∧ w = w' := by
  have HN := Lib.hid (none_bad h)
  have HC := Lib.hid (can_bad h)
  clear h
  go_enter Try.func50, Try.ntmps50
  go_wp2_with (first
    | (go_at_call 43; (with_reducible refine HN.out.mono ?_); rintro e w1 ⟨rfl, rfl⟩)
    | (go_at_call 52; (with_reducible refine HC.out.mono ?_); rintro e w1 ⟨rfl, rfl⟩))
  go_ret2
  exact ⟨rfl, rfl⟩
set_option maxRecDepth 20000 in
theorem get_bad (h : Bad w v) : Calls Try.prog 17 #[v, s] w fun e w' => e = .returned (.tuple #[.slice none 0 0, .int .i64 2]) ∧ w = w' := by
  have HN := Lib.hid (none_bad h)
  have HC := Lib.hid (can_bad h)
  have HF := Lib.hid (find_bad (s := s) h)
  clear h
  go_enter Try.func17, Try.ntmps17
  go_wp2_with (first
    | (go_at_call 43; (with_reducible refine HN.out.mono ?_); rintro e w1 ⟨rfl, rfl⟩)
    | (go_at_call 52; (with_reducible refine HC.out.mono ?_); rintro e w1 ⟨rfl, rfl⟩)
    | (go_at_call 50; (with_reducible refine HF.out.mono ?_); rintro e w1 ⟨rfl, rfl⟩))
  go_ret2
  exact ⟨rfl, rfl⟩
set_option maxRecDepth 20000 in
theorem synced_bad (h : Bad w v) : Calls Try.prog 18 #[v, s] w fun e w' => e = .returned (.tuple #[.int .i64 0, .int .i64 2]) ∧ w = w' := by
  have HN := Lib.hid (none_bad h)
  have HC := Lib.hid (can_bad h)
  have HF := Lib.hid (find_bad (s := s) h)
  clear h
  go_enter Try.func18, Try.ntmps18
  go_wp2_with (first
    | (go_at_call 43; (with_reducible refine HN.out.mono ?_); rintro e w1 ⟨rfl, rfl⟩)
    | (go_at_call 52; (with_reducible refine HC.out.mono ?_); rintro e w1 ⟨rfl, rfl⟩)
    | (go_at_call 50; (with_reducible refine HF.out.mono ?_); rintro e w1 ⟨rfl, rfl⟩))
  go_ret2
  exact ⟨rfl, rfl⟩
set_option maxRecDepth 20000 in
theorem create_bad (h : Bad w v) : Calls Try.prog 23 #[v, s] w fun e w' => e = .returned (.int .i64 2) ∧ w = w' := by
  have HN := Lib.hid (none_bad h)
  have HC := Lib.hid (can_bad h)
  clear h
  go_enter Try.func23, Try.ntmps23
  go_wp2_with (first
    | (go_at_call 43; (with_reducible refine HN.out.mono ?_); rintro e w1 ⟨rfl, rfl⟩)
    | (go_at_call 52; (with_reducible refine HC.out.mono ?_); rintro e w1 ⟨rfl, rfl⟩))
  go_ret
  exact ⟨rfl, rfl⟩
set_option maxRecDepth 20000 in
theorem append_bad (h : Bad w v) : Calls Try.prog 24 #[v, s, u] w fun e w' => e = .returned (.int .i64 2) ∧ w = w' := by
  have HN := Lib.hid (none_bad h)
  have HC := Lib.hid (can_bad h)
  have HF := Lib.hid (find_bad (s := s) h)
  clear h
  go_enter Try.func24, Try.ntmps24
  go_wp2_with (first
    | (go_at_call 43; (with_reducible refine HN.out.mono ?_); rintro e w1 ⟨rfl, rfl⟩)
    | (go_at_call 52; (with_reducible refine HC.out.mono ?_); rintro e w1 ⟨rfl, rfl⟩)
    | (go_at_call 50; (with_reducible refine HF.out.mono ?_); rintro e w1 ⟨rfl, rfl⟩))
  go_ret
  exact ⟨rfl, rfl⟩
set_option maxRecDepth 20000 in
theorem write_bad (h : Bad w v) : Calls Try.prog 25 #[v, s, .int .i64 k, u] w fun e w' => e = .returned (.int .i64 2) ∧ w = w' := by
  have HN := Lib.hid (none_bad h)
  have HC := Lib.hid (can_bad h)
  have HF := Lib.hid (find_bad (s := s) h)
  clear h
  go_enter Try.func25, Try.ntmps25
  go_wp2_with (first
    | (go_at_call 43; (with_reducible refine HN.out.mono ?_); rintro e w1 ⟨rfl, rfl⟩)
    | (go_at_call 52; (with_reducible refine HC.out.mono ?_); rintro e w1 ⟨rfl, rfl⟩)
    | (go_at_call 50; (with_reducible refine HF.out.mono ?_); rintro e w1 ⟨rfl, rfl⟩))
  go_ret
  exact ⟨rfl, rfl⟩
set_option maxRecDepth 20000 in
theorem sync_bad (h : Bad w v) : Calls Try.prog 26 #[v, s] w fun e w' => e = .returned (.int .i64 2) ∧ w = w' := by
  have HN := Lib.hid (none_bad h)
  have HC := Lib.hid (can_bad h)
  have HF := Lib.hid (find_bad (s := s) h)
  clear h
  go_enter Try.func26, Try.ntmps26
  go_wp2_with (first
    | (go_at_call 43; (with_reducible refine HN.out.mono ?_); rintro e w1 ⟨rfl, rfl⟩)
    | (go_at_call 52; (with_reducible refine HC.out.mono ?_); rintro e w1 ⟨rfl, rfl⟩)
    | (go_at_call 50; (with_reducible refine HF.out.mono ?_); rintro e w1 ⟨rfl, rfl⟩))
  go_ret
  exact ⟨rfl, rfl⟩
set_option maxRecDepth 20000 in
theorem rename_bad (h : Bad w v) : Calls Try.prog 27 #[v, s, t] w fun e w' => e = .returned (.int .i64 2) ∧ w = w' := by
  have HN := Lib.hid (none_bad h)
  have HC := Lib.hid (can_bad h)
  have HF := Lib.hid (find_bad (s := s) h)
  clear h
  go_enter Try.func27, Try.ntmps27
  go_wp2_with (first
    | (go_at_call 43; (with_reducible refine HN.out.mono ?_); rintro e w1 ⟨rfl, rfl⟩)
    | (go_at_call 52; (with_reducible refine HC.out.mono ?_); rintro e w1 ⟨rfl, rfl⟩)
    | (go_at_call 50; (with_reducible refine HF.out.mono ?_); rintro e w1 ⟨rfl, rfl⟩))
  go_ret
  exact ⟨rfl, rfl⟩
set_option maxRecDepth 20000 in
theorem truncate_bad (h : Bad w v) : Calls Try.prog 28 #[v, s, .int .i64 k] w fun e w' => e = .returned (.int .i64 2) ∧ w = w' := by
  have HN := Lib.hid (none_bad h)
  have HC := Lib.hid (can_bad h)
  have HF := Lib.hid (find_bad (s := s) h)
  clear h
  go_enter Try.func28, Try.ntmps28
  go_wp2_with (first
    | (go_at_call 43; (with_reducible refine HN.out.mono ?_); rintro e w1 ⟨rfl, rfl⟩)
    | (go_at_call 52; (with_reducible refine HC.out.mono ?_); rintro e w1 ⟨rfl, rfl⟩)
    | (go_at_call 50; (with_reducible refine HF.out.mono ?_); rintro e w1 ⟨rfl, rfl⟩))
  go_ret
  exact ⟨rfl, rfl⟩
set_option maxRecDepth 20000 in
theorem remove_bad (h : Bad w v) : Calls Try.prog 29 #[v, s] w fun e w' => e = .returned (.int .i64 2) ∧ w = w' := by
  have HN := Lib.hid (none_bad h)
  have HC := Lib.hid (can_bad h)
  have HF := Lib.hid (find_bad (s := s) h)
  clear h
  go_enter Try.func29, Try.ntmps29
  go_wp2_with (first
    | (go_at_call 43; (with_reducible refine HN.out.mono ?_); rintro e w1 ⟨rfl, rfl⟩)
    | (go_at_call 52; (with_reducible refine HC.out.mono ?_); rintro e w1 ⟨rfl, rfl⟩)
    | (go_at_call 50; (with_reducible refine HF.out.mono ?_); rintro e w1 ⟨rfl, rfl⟩))
  go_ret
  exact ⟨rfl, rfl⟩
set_option maxRecDepth 20000 in
theorem list_bad (h : Bad w v) : Calls Try.prog 16 #[v] w fun e w' => e = .returned (.slice none 0 0) ∧ w = w' := by
  have HN := Lib.hid (none_bad h)
  clear h
  go_enter Try.func16, Try.ntmps16
  go_wp2_with (first
    | (go_at_call 43; (with_reducible refine HN.out.mono ?_); rintro e w1 ⟨rfl, rfl⟩))
  go_ret
  exact ⟨rfl, rfl⟩
set_option maxRecDepth 20000 in
theorem used_bad (h : Bad w v) : Calls Try.prog 12 #[v] w fun e w' => e = .returned (.int .i64 0) ∧ w = w' := by
  have HN := Lib.hid (none_bad h)
  clear h
  go_enter Try.func12, Try.ntmps12
  go_wp2_with (first
    | (go_at_call 43; (with_reducible refine HN.out.mono ?_); rintro e w1 ⟨rfl, rfl⟩))
  go_ret
  exact ⟨rfl, rfl⟩
set_option maxRecDepth 20000 in
theorem room_bad (h : Bad w v) : Calls Try.prog 30 #[v] w fun e w' => e = .returned (.int .i64 0) ∧ w = w' := by
  have HN := Lib.hid (none_bad h)
  clear h
  go_enter Try.func30, Try.ntmps30
  go_wp2_with (first
    | (go_at_call 43; (with_reducible refine HN.out.mono ?_); rintro e w1 ⟨rfl, rfl⟩))
  go_ret
  exact ⟨rfl, rfl⟩
set_option maxRecDepth 20000 in
theorem crash_bad (h : Bad w v) : Calls Try.prog 19 #[v, .int .i64 k] w fun e w' => e = .returned (.int .i64 2) ∧ w = w' := by
  have HN := Lib.hid (none_bad h)
  have HC := Lib.hid (can_bad h)
  clear h
  go_enter Try.func19, Try.ntmps19
  go_wp2_with (first
    | (go_at_call 43; (with_reducible refine HN.out.mono ?_); rintro e w1 ⟨rfl, rfl⟩)
    | (go_at_call 52; (with_reducible refine HC.out.mono ?_); rintro e w1 ⟨rfl, rfl⟩))
  go_ret
  exact ⟨rfl, rfl⟩
set_option maxRecDepth 20000 in
theorem restart_bad (h : Bad w v) : Calls Try.prog 20 #[v] w fun e w' => e = .returned (.int .i64 2) ∧ w = w' := by
  have HN := Lib.hid (none_bad h)
  have HC := Lib.hid (can_bad h)
  clear h
  go_enter Try.func20, Try.ntmps20
  go_wp2_with (first
    | (go_at_call 43; (with_reducible refine HN.out.mono ?_); rintro e w1 ⟨rfl, rfl⟩)
    | (go_at_call 52; (with_reducible refine HC.out.mono ?_); rintro e w1 ⟨rfl, rfl⟩))
  go_ret
  exact ⟨rfl, rfl⟩
set_option maxRecDepth 20000 in
theorem off_bad (h : Bad w v) : Calls Try.prog 15 #[v] w fun e w' => e = .returned (.bool false) ∧ w = w' := by
  have HN := Lib.hid (none_bad h)
  clear h
  go_enter Try.func15, Try.ntmps15
  go_wp2_with (first
    | (go_at_call 43; (with_reducible refine HN.out.mono ?_); rintro e w1 ⟨rfl, rfl⟩))
  go_ret
  exact ⟨rfl, rfl⟩
set_option maxRecDepth 20000 in
theorem clone_bad (h : Bad w v) : Calls Try.prog 31 #[v] w fun e w' => e = .returned (.pointer none) ∧ w = w' := by
  have HN := Lib.hid (none_bad h)
  clear h
  go_enter Try.func31, Try.ntmps31
  go_wp2_with (first
    | (go_at_call 43; (with_reducible refine HN.out.mono ?_); rintro e w1 ⟨rfl, rfl⟩))
  go_ret
  exact ⟨rfl, rfl⟩
end
end Go.Proofs.Ytnpjfjgnhadmjaa

/- DiskNone: the walk. -/
namespace Go.Proofs.Ytnpjfjgnhadmjaa
open Go.RowKit Go.Maps Go.Deep
set_option linter.unusedVariables false

/-- values that are bytes, or may be -/
def Bys (xs : List Value) : Prop := ∀ j, j < xs.length → ∃ x, xs[j]? = some (.int .u8 x)
theorem Bys.of (b : List UInt8) : Bys (cellsB b) := fun j hj => ⟨_, cellsB_get b j (by rw [cellsB_len] at hj; exact hj)⟩
theorem Bys.set {xs : List Value} (h : Bys xs) (q : Nat) (z : Int) : Bys (xs.set q (.int .u8 z)) := fun j hj => by
  rw [List.length_set] at hj
  rw [List.getElem?_set]
  split
  · rw [if_pos (by omega)]; exact ⟨z, rfl⟩
  · exact h j hj
section
variable {W w : World} {X : List Asn} {p : Nat}
theorem St.rowLen {e : TypeId} {n : Nat} {v : Value} {xs : List Value} (h : St W w (aRow e 1 v n xs :: X)) : xs.length = n := by
  have := h.rowRd.1
  omega
def d0 : Dk := ⟨[], 4194304, false⟩
def d1 (b : List UInt8) : Dk := ⟨[⟨[97], b, 0⟩], 4194304, false⟩
theorem nn0 : createF d0 [97] = (0, d1 []) := by rfl
theorem nn1 {b : List UInt8} (h : b.length ≤ 1048576) : appendF (d1 []) [97] b = (0, d1 b) := by
  have h1 : ¬ ((d1 []).room - ((usedF (d1 []).R : Nat) : Int) < (b.length : Int)) := by
    show ¬ ((4194304 : Int) - 0 < (b.length : Int))
    omega
  have hm : mayF (d1 []) [97] = (some 0, 0) := by rfl
  unfold appendF
  rw [turn_some hm (f := ⟨[97], [], 0⟩) rfl]
  rw [if_neg h1]
  rfl
theorem nn2 (b : List UInt8) : getF (d1 b) [97] = (b, 0) := by rfl
theorem create_n (h : St W w (aDisk p d0 :: X)) : Calls Try.prog 23 #[.pointer (some ⟨p, 0, none⟩), .string ⟨#[97]⟩] w fun e w' => e = .returned (.int .i64 0) ∧ St W w' (aDisk p (d1 []) :: X) := by
  have := create_c h len97
  rw [nn0] at this
  exact this
theorem append_n {u : Value} {b : List UInt8} (h : St W w (aDisk p (d1 []) :: X)) (hu : Bs w u b) (hb : b.length ≤ 1048576) : Calls Try.prog 24 #[.pointer (some ⟨p, 0, none⟩), .string ⟨#[97]⟩, u] w fun e w' => e = .returned (.int .i64 0) ∧ St W w' (aDisk p (d1 b) :: X) := by
  have := append_c h len97 hu (by omega)
  rw [nn1 hb] at this
  exact this
theorem get_n {b : List UInt8} (h : St W w (aDisk p (d1 b) :: X)) : Calls Try.prog 17 #[.pointer (some ⟨p, 0, none⟩), .string ⟨#[97]⟩] w fun e w' => ∃ v, e = .returned (.tuple #[v, .int .i64 0]) ∧ St W w' (aBy v b :: aDisk p (d1 b) :: X) := by
  have := get_c h len97
  rw [nn2] at this
  exact this
set_option maxRecDepth 20000 in
set_option maxHeartbeats 8000000 in
theorem diskNone_walk {W : World} {v : Value} {b : List UInt8} (hb : Bs W v b) (hbl : b.length ≤ 1048576) :
    Calls Try.prog 5 #[v] W fun e w' => e = .returned (.bool true) ∧ B W w' := by
  obtain ⟨A0, c0, rfl⟩ := hb.rd.slice
  have HBL := Lib.hid hbl
  have HK := Lib.hid (show ¬ ((4194304 : Int) < 0 ∨ 4194304 < (4194304 : Int)) by decide)
  obtain ⟨bl, hl⟩ : ∃ bl : Nat, b.length = bl := ⟨_, rfl⟩
  have HL := Lib.hid hl
  have hbl2 : bl ≤ 1048576 := by omega
  have hgt : ¬ (4194304 : Int) < (bl : Int) := by omega
  rw [hl] at hb ⊢
  have HB := Lib.hid hb
  clear hb hbl hl
  go_enter Try.func5, Try.ntmps5
  go_wp2_with (first
    | (go_at_call 7; (with_reducible refine (live_c (St.nil W)).mono ?_); rintro e w1 ⟨rfl, hS⟩; have HS1 := Lib.hid hS; clear hS))
  have HCE := Lib.hid (show ∀ (wr : World) (q : Nat), B ((w1.alloc (.cells #[.int .i64 0, .map none, .bool false] 58)).alloc (.cells #[.pointer none, .pointer (some ⟨w1.heap.size, 0, none⟩)] 24)) wr → q < 2 → ∃ v, wr.cell? ⟨w1.heap.size + 1, q, none⟩ = some v ∧ Bad wr v from fun wr q hw hq => by
    have hs : (w1.alloc (.cells #[.int .i64 0, .map none, .bool false] 58)).heap.size = w1.heap.size + 1 := by simp
    have k1 := Blk.new (w1.alloc (.cells #[.int .i64 0, .map none, .bool false] 58)) 24 #[.pointer none, .pointer (some ⟨w1.heap.size, 0, none⟩)]
    rw [hs] at k1
    have k2 := (Blk.new w1 58 #[.int .i64 0, .map none, .bool false]).later (B.alloc' _ (.cells #[.pointer none, .pointer (some ⟨w1.heap.size, 0, none⟩)] 24))
    have hq2 : q = 0 ∨ q = 1 := by omega
    rcases hq2 with rfl | rfl
    · exact ⟨_, hw.cell (k1.cell 0), .inl rfl⟩
    · exact ⟨_, hw.cell (k1.cell 1), .inr ⟨_, rfl, k2.later hw⟩⟩)
  generalize hwn : (w1.alloc (.cells #[.int .i64 0, .map none, .bool false] 58)).alloc (.cells #[.pointer none, .pointer (some ⟨w1.heap.size, 0, none⟩)] 24) = wn at *
  have HW := Lib.hid (show St W wn [] by rw [← hwn]; exact (HS1.out.later (B.alloc' _ _)).later (B.alloc' _ _))
  clear hwn HS1
  go_loopw [24] (fun i wr => ∃ q : Nat, q ≤ 2 ∧ i = .int .i64 q ∧ Hid (B wn wr)) (fun i _ => 2 - (intOf i).toNat)
  case atStart => exact ⟨0, by omega, rfl, Below.refl _ _⟩
  case round =>
    obtain ⟨q, hq, rfl, HWR⟩ := hrel
    by_cases hlt : q < 2
    · have hqi : (q : Int) < 2 := by omega
      obtain ⟨v, kv, hbad⟩ := HCE.out wr q HWR.out hlt
      have HBAD := Lib.hid hbad
      clear hbad
      go_wp2_with (first
        | (go_at_call 17; (with_reducible refine (get_bad HBAD.out).mono ?_); rintro e w5 ⟨rfl, rfl⟩)
        | (go_at_call 18; (with_reducible refine (synced_bad HBAD.out).mono ?_); rintro e w5 ⟨rfl, rfl⟩)
        | (go_at_call 23; (with_reducible refine (create_bad HBAD.out).mono ?_); rintro e w5 ⟨rfl, rfl⟩)
        | (go_at_call 24; (with_reducible refine (append_bad HBAD.out).mono ?_); rintro e w5 ⟨rfl, rfl⟩)
        | (go_at_call 25; (with_reducible refine (write_bad HBAD.out).mono ?_); rintro e w5 ⟨rfl, rfl⟩)
        | (go_at_call 26; (with_reducible refine (sync_bad HBAD.out).mono ?_); rintro e w5 ⟨rfl, rfl⟩)
        | (go_at_call 27; (with_reducible refine (rename_bad HBAD.out).mono ?_); rintro e w5 ⟨rfl, rfl⟩)
        | (go_at_call 28; (with_reducible refine (truncate_bad HBAD.out).mono ?_); rintro e w5 ⟨rfl, rfl⟩)
        | (go_at_call 29; (with_reducible refine (remove_bad HBAD.out).mono ?_); rintro e w5 ⟨rfl, rfl⟩)
        | (go_at_call 16; (with_reducible refine (list_bad HBAD.out).mono ?_); rintro e w5 ⟨rfl, rfl⟩)
        | (go_at_call 12; (with_reducible refine (used_bad HBAD.out).mono ?_); rintro e w5 ⟨rfl, rfl⟩)
        | (go_at_call 30; (with_reducible refine (room_bad HBAD.out).mono ?_); rintro e w5 ⟨rfl, rfl⟩)
        | (go_at_call 19; (with_reducible refine (crash_bad HBAD.out).mono ?_); rintro e w5 ⟨rfl, rfl⟩)
        | (go_at_call 20; (with_reducible refine (restart_bad HBAD.out).mono ?_); rintro e w5 ⟨rfl, rfl⟩)
        | (go_at_call 15; (with_reducible refine (off_bad HBAD.out).mono ?_); rintro e w5 ⟨rfl, rfl⟩)
        | (go_at_call 31; (with_reducible refine (clone_bad HBAD.out).mono ?_); rintro e w5 ⟨rfl, rfl⟩))
      go_roundw
      case rel => exact ⟨q + 1, by omega, by go_num, HWR.out⟩
      case measure => simp [intOf]; omega
    · have hqi : ¬ (q : Int) < 2 := by omega
      have HSW := Lib.hid (HW.out.later HWR.out)
      clear HWR HW HCE
      go_wp2_with (first
        | (go_at_call 8; (with_reducible refine (new_yes HSW.out HK.out).mono ?_); rintro e w2 ⟨p, rfl, hS⟩; have H2 := Lib.hid (show St W w2 [aDisk p d0] from hS); clear hS)
        | (go_at_call 32; (with_reducible refine (clone89 (HB.out.later H2.out.b)).mono ?_); rintro e w3 ⟨v3, rfl, r3, hb3⟩; have hS := H2.out.addRow hb3 r3; rw [HL.out] at hS; obtain ⟨A1, c1, rfl⟩ := hS.rowSlice; have H3 := Lib.hid hS; clear hS r3 hb3)
        | (go_at_call 23; (with_reducible refine (create_n H3.out.swap).mono ?_); rintro e w4 ⟨rfl, hS⟩; have H4 := Lib.hid hS; clear hS)
        | (go_at_call 24; (with_reducible refine (append_n H4.out (H4.out.swap.rowBs HL.out.symm (by have := HBL.out; unfold big; omega)) HBL.out).mono ?_); rintro e w5 ⟨rfl, hS⟩; have H5 := Lib.hid hS.swap; clear hS))
      clear H2 H3 H4 HSW
      go_loopw [143] (fun i wr => ∃ (q : Nat) (xs : List Value), q ≤ bl ∧ i = .int .i64 q ∧ Hid (Bys xs) ∧ Hid (St W wr (aRow 5 1 (.slice A1 bl c1) bl xs :: [aDisk p (d1 b)]))) (fun i _ => bl - (intOf i).toNat)
      case atStart => exact ⟨0, _, Nat.zero_le _, rfl, Bys.of b, H5.out⟩
      case round =>
        obtain ⟨q, xs, hq, rfl, HX, HS⟩ := hrel
        by_cases hlt : q < bl
        · have hqi : (q : Int) < bl := by omega
          obtain ⟨g, rfl⟩ := HS.out.rowSome (by omega)
          have hxl := HS.out.rowLen
          obtain ⟨x, hx⟩ := HX.out q (by omega)
          have kx := HS.out.rowAt hx
          have kf := HS.out.rowFree q
          have H9 := Lib.hid (HS.out.rowSet (j := q) (by omega) (.int .u8 (bits BinOp.xor IntKind.u8 x 255)))
          have HX9 := Lib.hid (HX.out.set q (bits BinOp.xor IntKind.u8 x 255))
          clear hx hxl
          go_wp2_with fail
          go_roundw
          case rel => exact ⟨q + 1, _, by omega, by go_num, HX9.out, H9.out⟩
          case measure => simp [intOf]; omega
        · have hqi : ¬ (q : Int) < bl := by omega
          go_wp2_with (first
            | (go_at_call 17; (with_reducible refine (get_n HS.out.swap).mono ?_); rintro e w8 ⟨v8, rfl, hS⟩; unfold aBy at hS; rw [HL.out] at hS; obtain ⟨A2, c2, rfl⟩ := hS.rowSlice; have H6 := Lib.hid hS; clear hS))
          clear H5 HS HX
          generalize xs = xs0 at *
          go_loopw [160] (fun i wr => ∃ (q : Nat) (xs : List Value), q ≤ bl ∧ i = .int .i64 q ∧ Hid (Bys xs) ∧ Hid (St W wr (aRow 5 1 (.slice A2 bl c2) bl xs :: [aDisk p (d1 b), aRow 5 1 (.slice A1 bl c1) bl xs0]))) (fun i _ => bl - (intOf i).toNat)
          case atStart => exact ⟨0, _, Nat.zero_le _, rfl, Bys.of b, H6.out⟩
          case round =>
            obtain ⟨q, xs, hq, rfl, HX, HS⟩ := hrel
            by_cases hlt : q < bl
            · have hqi : (q : Int) < bl := by omega
              obtain ⟨g, rfl⟩ := HS.out.rowSome (by omega)
              have hxl := HS.out.rowLen
              obtain ⟨x, hx⟩ := HX.out q (by omega)
              have kx := HS.out.rowAt hx
              have kf := HS.out.rowFree q
              have H9 := Lib.hid (HS.out.rowSet (j := q) (by omega) (.int .u8 (bits BinOp.xor IntKind.u8 x 255)))
              have HX9 := Lib.hid (HX.out.set q (bits BinOp.xor IntKind.u8 x 255))
              clear hx hxl
              go_wp2_with fail
              go_roundw
              case rel => exact ⟨q + 1, _, by omega, by go_num, HX9.out, H9.out⟩
              case measure => simp [intOf]; omega
            · have hqi : ¬ (q : Int) < bl := by omega
              go_wp2_with (first
                | (go_at_call 17; (with_reducible refine (get_n HS.out.swap).mono ?_); rintro e w8 ⟨v8, rfl, hS⟩; have H8 := Lib.hid hS; clear hS)
                | (go_at_call 33; (with_reducible refine (equal68 (H8.out.byBs (by have := HBL.out; unfold big; omega)) (HB.out.later H8.out.b)).mono ?_); rintro e w9 ⟨rfl, rfl⟩; simp only [beq_self_eq_true]))
              go_ret
              exact ⟨rfl, H8.out.b⟩
end
end Go.Proofs.Ytnpjfjgnhadmjaa

/- DiskNone: for every byte string of bulk at most 1048576 the law returns true and leaves what it was handed as it was. -/
namespace Go.Proofs.Ytnpjfjgnhadmjaa
open Go.ChangeShapes Go.WideShapes Go.ChangeAt Go.RowKit Go.Deep Go.Joins
set_option linter.unusedVariables false

theorem diskNone_own : ownKnob Try.prog.godebug = none := by kernel_rfl
theorem diskNone_laid : laidOutB Try.prog = true := by kernel_rfl

set_option maxRecDepth 100000 in
theorem diskNone_contract (H : Type) (enc : TypeId × Value → H) (W : World) (base : Nat) (args : Array Value) (ds gs : List (DataW H)) (before : List MemPlace)
    (hval : ∀ (j : Nat) t v, Try.f5.params[j]? = some t → args[j]? = some v → Value.okWide Try.prog W .any base t v)
    (hW : DataW.Whole enc Try.prog Try.f5.params.toList Rows.diskNoneSpec.vars false W args.toList ds gs before) (hk : Rows.uptoSmall H (ds ++ gs) = true) :
    Calls Try.prog 5 args W fun e W' => ∃ v, e = .returned v ∧ Rows.diskNoneSpec.post enc Try.prog Try.f5 false true false false W args v W' := by
  have hW' := hW
  obtain ⟨p, q, hA0, hV, rfl, hfz, hnd⟩ := hW
  have hA : DataW.TrodAll enc Try.prog W 0 (fun _ => true) true Try.f5.params.toList args.toList ds p := hA0
  rw [Try.params5] at hA hval
  obtain ⟨rfl, rfl⟩ := trodVars_none hV
  have hB := uptoBound hk
  rw [List.append_nil] at hB
  obtain ⟨v0, vs0, d0, ds0, p0, q0, hargs, rfl, rfl, h0, r0⟩ := trodAll_cons hA
  obtain ⟨rfl, rfl, rfl⟩ := trodAll_nil r0
  obtain rfl : args = #[v0] := by cases args; simp_all
  simp only [Rows.uptoBulkAll] at hB
  obtain ⟨b, hb, hbl⟩ := open_bsU Try.underlying31 Try.underlying5 (by kernel_rfl) (hval 0 31 v0 rfl rfl) h0 (by omega)

  refine (diskNone_walk hb (by omega)).mono fun e W' ⟨he, hg⟩ => ?_
  subst he
  exact ⟨_, rfl, law_post diskNone_laid (by kernel_rfl) rfl ⟨rfl, rfl, rfl⟩ (tb := 4) (by kernel_rfl) Try.underlying4 hW' hg⟩

set_option maxRecDepth 100000 in
theorem diskNone_lifted (os : Os) (started : os.Started) (H : Type) (enc : TypeId × Value → H) (F : Stop.Interp) :
    ReturnsInHanded {} Try.checked os 5 .any ((Rows.OpenSpec.upto Rows.diskNoneSpec).pre6 enc Try.prog Try.f5 Rows.diskNoneUptoRow.domain false) (((Rows.OpenSpec.upto Rows.diskNoneSpec).at F).post enc Try.prog Try.f5 false true false false) := by
  refine returnsInHanded_of_cond (C := Try.checked) (s := Rows.OpenSpec.upto Rows.diskNoneSpec) (k := Rows.uptoSmall) rfl diskNone_own started (by kernel_rfl) Try.func5
    (OpenSpec.witness (enc := enc) (C := Try.checked) (s := Rows.OpenSpec.upto Rows.diskNoneSpec) (k := Rows.uptoSmall) rfl false ⟨#[], #[.slice none 0 0], []⟩ 8 (by kernel_rfl) (by kernel_rfl) (by kernel_rfl)
      (x := ([.nil], [], [])) (by kernel_rfl) rfl (by kernel_rfl)) ?_
  intro W base args ds gs before hval hW _ hk _
  exact diskNone_contract H enc W base args ds gs before hval hW hk

theorem diskNoneUpto_holds : Rows.DiskNoneUptoSaid :=
  OpenClaim.holds_of_cond 5 Try.f5 rfl rfl rfl rfl rfl rfl rfl ⟨rfl, rfl, rfl, rfl, rfl⟩ rfl rfl rfl rfl rfl (by kernel_rfl) Try.func5 (by kernel_rfl)
    (of_decide_eq_true (by kernel_rfl)) (by unfold Func.isWrapper; first | (rw [if_pos (by decide +kernel)]; kernel_rfl) | (rw [if_neg (by decide +kernel)]; exact ⟨rfl, rfl⟩))
    (fun os started H enc _ F => diskNone_lifted os started H enc F)

end Go.Proofs.Ytnpjfjgnhadmjaa
