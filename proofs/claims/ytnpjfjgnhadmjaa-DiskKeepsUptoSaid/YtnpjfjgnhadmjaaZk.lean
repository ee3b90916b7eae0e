/- DiskKeeps: for every list of operations of bulk at most 1048576 and every number the law returns true and leaves what it was handed as it was. -/
import Derived.Test.YtnpjfjgnhadmjaaZb3
import Derived.Maps.Views
/- DiskRefuses: the walk. -/
namespace Go.Proofs.Ytnpjfjgnhadmjaa
open Go.RowKit Go.Maps Go.Deep
set_option linter.unusedVariables false

section
variable {W w : World} {p r : Nat} {d : Dk} {X : List Asn} {n : List UInt8} {A C D : Asn}
theorem St.swap2 (h : St W w (A :: C :: D :: X)) : St W w (A :: D :: C :: X) := h.perm (List.Perm.cons _ (List.Perm.swap _ _ _))
theorem turn_room (g : Fl → Int × Fl) : (turnF d n g).2.room = d.room := by
  unfold turnF
  repeat' split
  all_goals rfl
theorem step_room (d : Dk) (o : OpV) : (stepF d o).2.room = d.room := by
  unfold stepF
  split; · unfold createF; repeat' split
           all_goals rfl
  split; · exact turn_room _
  split; · exact turn_room _
  split; · exact turn_room _
  split; · unfold renameF; repeat' split
           all_goals rfl
  split; · exact turn_room _
  split; · unfold removeF; repeat' split
           all_goals rfl
  split; · unfold crashF; split <;> rfl
  split; · unfold restartF; split <;> rfl
  rfl
theorem nm_empty (k : Int) (o : Bool) : nmOk ⟨[], k, o⟩ := fun f hf => by cases hf
set_option maxRecDepth 20000 in
set_option maxHeartbeats 4000000 in
theorem diskRefuses_walk {W : World} {v : Value} {L : List OpV} {k : Nat} (hk : k ≤ 255) (hL : Ops W v L) :
    Calls Try.prog 3 #[.int .u8 (k : Int), v] W fun e w' => e = .returned (.bool true) ∧ B W w' := by
  obtain ⟨A, c, rfl, hm1, hr⟩ := hL
  have HR := Lib.hid hr
  have HK := Lib.hid (show ¬ ((k : Int) < 0 ∨ 4194304 < (k : Int)) by omega)
  have q1 : IntKind.i64.wrap (k : Int) = (k : Int) := by simp [IntKind.wrap, IntKind.signed, IntKind.bits]; omega
  have hs : (L.length : Int) ≤ 9223372036854775807 := by omega
  have HKE := Lib.hid hk
  clear hr hm1 hk
  go_enter Try.func3, Try.ntmps3
  go_wp2_with (first
    | (go_at_call 7; (with_reducible refine (live_c (St.nil W)).mono ?_); rintro e w1 ⟨rfl, hS⟩; have HS1 := Lib.hid hS; clear hS)
    | (go_at_call 8; (with_reducible refine (new_yes HS1.out HK.out).mono ?_); rintro e w2 ⟨p, rfl, hS⟩; have HS2 := Lib.hid hS; clear hS)
    | (go_at_call 9; (with_reducible refine (rnew_yes HS2.out HK.out).mono ?_); rintro e w3 ⟨r, rfl, hS⟩; have HS3 := Lib.hid hS.swap; clear hS))
  go_loopw [35] (fun i wr => ∃ (q : Nat) (d : Dk), q ≤ L.length ∧ i = .int .i64 (q : Int) ∧ Hid (nmOk d ∧ d.room = (k : Int)) ∧ Hid (St W wr [aDisk p d, aRdk r d])) (fun i _ => L.length - (intOf i).toNat)
  case atStart => exact ⟨0, _, Nat.zero_le _, rfl, ⟨nm_empty _ _, rfl⟩, HS3.out⟩
  case round =>
    obtain ⟨q, d, hq, rfl, HD, HS⟩ := hrel
    clear HS1 HS2 HS3
    by_cases hlt : q < L.length
    · obtain ⟨b, off, rfl, hbl, hc⟩ := HR.out (by omega)
      obtain ⟨hok, _, hcells⟩ := hc q _ (List.getElem?_eq_getElem hlt)
      have hqi : (q : Int) < L.length := by omega
      generalize L[q] = o at *
      obtain ⟨d', hd'⟩ : ∃ d', (stepF d o).2 = d' := ⟨_, rfl⟩
      have HD2 := Lib.hid (show nmOk d' ∧ d'.room = (k : Int) by rw [← hd']; exact ⟨nm_step HD.out.1 hok, (step_room d o).trans HD.out.2⟩)
      have hdk : d.ok := aRdk.ok HS.out.swap
      have hdk' : d'.ok := by rw [← hd']; exact step_ok hdk o
      obtain ⟨us, hus⟩ : ∃ us : Int, ((usedF d'.R : Nat) : Int) = us := ⟨_, rfl⟩
      have hus2 : us ≤ (k : Int) := by rw [← hus, ← HD2.out.2]; exact hdk'.used
      have HUS := Lib.hid hus
      have HSM := Lib.hid (fun (h : askedF d o = true) => show d' = d by rw [← hd']; exact asked_same h)
      have HDO := Lib.hid (fun (w' : World) (Y : List Asn) (h : St W w' (aDisk p d :: aRdk r d :: Y)) => does_c h hok)
      have HRE := Lib.hid (fun (w' : World) (Y : List Asn) (x : Nat) (h : St W w' (aRdk x d :: Y)) => refused_c h hok)
      have HNL := Lib.hid hok.n
      obtain ⟨Au, cu, hux⟩ := hok.u.rd.slice
      rw [hd'] at HDO
      obtain ⟨ask, hask⟩ : ∃ ask, askedF d o = ask := ⟨_, rfl⟩
      rw [hask] at HRE HSM
      clear hask hd' hok hdk hdk' hus hc
      obtain ⟨ok, n, to, at_, u, bs⟩ := o
      simp only at hux HDO HRE HSM HNL
      subst hux
      unfold OpV.cells at HDO HRE hcells
      simp only at HDO HRE hcells
      have k0 : wr.cell? ⟨b, off + q * 5 + 0, none⟩ = some (.int .i64 ok) := HS.out.b.cell (hcells 0 _ rfl)
      have k1 : wr.cell? ⟨b, off + q * 5 + 1, none⟩ = some (.string (bstr n)) := HS.out.b.cell (hcells 1 _ rfl)
      have k2 : wr.cell? ⟨b, off + q * 5 + 2, none⟩ = some (.string (bstr to)) := HS.out.b.cell (hcells 2 _ rfl)
      have k3 : wr.cell? ⟨b, off + q * 5 + 3, none⟩ = some (.int .i64 at_) := HS.out.b.cell (hcells 3 _ rfl)
      have k4 : wr.cell? ⟨b, off + q * 5 + 4, none⟩ = some (.slice Au bs.length cu) := HS.out.b.cell (hcells 4 _ rfl)
      simp only [Nat.add_zero] at k0
      have HS0 := Lib.hid (aBlk.new HS.out 33 #[.int .i64 ok, .string (bstr n), .string (bstr to), .int .i64 at_, .slice Au bs.length cu])
      clear hcells
      cases ask with
      | false =>
        go_wp2_with (first
          | (go_at_call 10; (with_reducible refine (rclone_c HS0.out.rot3).mono ?_); rintro e w1 ⟨c1, rfl, hS⟩; have H1 := Lib.hid hS.rot4.swap2; clear hS k0 k1 k2 k3 k4; generalize wr.heap.size = g at *; have m0 := H1.out.cellOf (g := g) (t := 33) (cs := #[.int .i64 ok, .string (bstr n), .string (bstr to), .int .i64 at_, .slice Au bs.length cu]) (by simp) 0; simp only [List.getElem?_toArray, List.getElem?_cons_zero] at m0; have m1 := H1.out.cellOf (g := g) (t := 33) (cs := #[.int .i64 ok, .string (bstr n), .string (bstr to), .int .i64 at_, .slice Au bs.length cu]) (by simp) 1; simp only [List.getElem?_toArray, List.getElem?_cons_succ, List.getElem?_cons_zero] at m1; have m2 := H1.out.cellOf (g := g) (t := 33) (cs := #[.int .i64 ok, .string (bstr n), .string (bstr to), .int .i64 at_, .slice Au bs.length cu]) (by simp) 2; simp only [List.getElem?_toArray, List.getElem?_cons_succ, List.getElem?_cons_zero] at m2; have m3 := H1.out.cellOf (g := g) (t := 33) (cs := #[.int .i64 ok, .string (bstr n), .string (bstr to), .int .i64 at_, .slice Au bs.length cu]) (by simp) 3; simp only [List.getElem?_toArray, List.getElem?_cons_succ, List.getElem?_cons_zero] at m3; have m4 := H1.out.cellOf (g := g) (t := 33) (cs := #[.int .i64 ok, .string (bstr n), .string (bstr to), .int .i64 at_, .slice Au bs.length cu]) (by simp) 4; simp only [List.getElem?_toArray, List.getElem?_cons_succ, List.getElem?_cons_zero] at m4)
          | (go_at_call 11; (with_reducible refine (HDO.out _ _ H1.out).mono ?_); rintro e w2 ⟨rfl, hS⟩; have H2 := Lib.hid hS; clear hS m0 m1 m2 m3 m4)
          | (go_at_call 12; (with_reducible refine (usedD_c H2.out).mono ?_); rintro e w3 ⟨rfl, hb3⟩; rw [HUS.out]; have H3 := Lib.hid (H2.out.later hb3); clear hb3)
          | (go_at_call 10; (with_reducible refine (rclone_c H3.out.rot3).mono ?_); rintro e w4 ⟨c4, rfl, hS⟩; have H4 := Lib.hid hS; clear hS; have n0 := H4.out.cellOf (g := g) (t := 33) (cs := #[.int .i64 ok, .string (bstr n), .string (bstr to), .int .i64 at_, .slice Au bs.length cu]) (by simp) 0; simp only [List.getElem?_toArray, List.getElem?_cons_zero] at n0; have n1 := H4.out.cellOf (g := g) (t := 33) (cs := #[.int .i64 ok, .string (bstr n), .string (bstr to), .int .i64 at_, .slice Au bs.length cu]) (by simp) 1; simp only [List.getElem?_toArray, List.getElem?_cons_succ, List.getElem?_cons_zero] at n1; have n2 := H4.out.cellOf (g := g) (t := 33) (cs := #[.int .i64 ok, .string (bstr n), .string (bstr to), .int .i64 at_, .slice Au bs.length cu]) (by simp) 2; simp only [List.getElem?_toArray, List.getElem?_cons_succ, List.getElem?_cons_zero] at n2; have n3 := H4.out.cellOf (g := g) (t := 33) (cs := #[.int .i64 ok, .string (bstr n), .string (bstr to), .int .i64 at_, .slice Au bs.length cu]) (by simp) 3; simp only [List.getElem?_toArray, List.getElem?_cons_succ, List.getElem?_cons_zero] at n3; have n4 := H4.out.cellOf (g := g) (t := 33) (cs := #[.int .i64 ok, .string (bstr n), .string (bstr to), .int .i64 at_, .slice Au bs.length cu]) (by simp) 4; simp only [List.getElem?_toArray, List.getElem?_cons_succ, List.getElem?_cons_zero] at n4)
          | (go_at_call 13; (with_reducible refine (HRE.out _ _ _ H4.out).mono ?_); rintro e w5 ⟨rfl, d2, hS⟩; have H5 := Lib.hid hS.drop.drop.rot3.drop; clear hS n0 n1 n2 n3 n4))
        go_roundw
        case rel => exact ⟨q + 1, d', by omega, by go_num, HD2.out, H5.out⟩
        case measure => simp [intOf]; omega
      | true =>
        obtain rfl := HSM.out rfl
        go_wp2_with (first
          | (go_at_call 10; (with_reducible refine (rclone_c HS0.out.rot3).mono ?_); rintro e w1 ⟨c1, rfl, hS⟩; have H1 := Lib.hid hS.rot4.swap2; clear hS k0 k1 k2 k3 k4; generalize wr.heap.size = g at *; have m0 := H1.out.cellOf (g := g) (t := 33) (cs := #[.int .i64 ok, .string (bstr n), .string (bstr to), .int .i64 at_, .slice Au bs.length cu]) (by simp) 0; simp only [List.getElem?_toArray, List.getElem?_cons_zero] at m0; have m1 := H1.out.cellOf (g := g) (t := 33) (cs := #[.int .i64 ok, .string (bstr n), .string (bstr to), .int .i64 at_, .slice Au bs.length cu]) (by simp) 1; simp only [List.getElem?_toArray, List.getElem?_cons_succ, List.getElem?_cons_zero] at m1; have m2 := H1.out.cellOf (g := g) (t := 33) (cs := #[.int .i64 ok, .string (bstr n), .string (bstr to), .int .i64 at_, .slice Au bs.length cu]) (by simp) 2; simp only [List.getElem?_toArray, List.getElem?_cons_succ, List.getElem?_cons_zero] at m2; have m3 := H1.out.cellOf (g := g) (t := 33) (cs := #[.int .i64 ok, .string (bstr n), .string (bstr to), .int .i64 at_, .slice Au bs.length cu]) (by simp) 3; simp only [List.getElem?_toArray, List.getElem?_cons_succ, List.getElem?_cons_zero] at m3; have m4 := H1.out.cellOf (g := g) (t := 33) (cs := #[.int .i64 ok, .string (bstr n), .string (bstr to), .int .i64 at_, .slice Au bs.length cu]) (by simp) 4; simp only [List.getElem?_toArray, List.getElem?_cons_succ, List.getElem?_cons_zero] at m4)
          | (go_at_call 11; (with_reducible refine (HDO.out _ _ H1.out).mono ?_); rintro e w2 ⟨rfl, hS⟩; have H2 := Lib.hid hS; clear hS m0 m1 m2 m3 m4)
          | (go_at_call 12; (with_reducible refine (usedD_c H2.out).mono ?_); rintro e w3 ⟨rfl, hb3⟩; rw [HUS.out]; have H3 := Lib.hid (H2.out.later hb3); clear hb3)
          | (go_at_call 10; (with_reducible refine (rclone_c H3.out.rot3).mono ?_); rintro e w4 ⟨c4, rfl, hS⟩; have H4 := Lib.hid hS; clear hS; have n0 := H4.out.cellOf (g := g) (t := 33) (cs := #[.int .i64 ok, .string (bstr n), .string (bstr to), .int .i64 at_, .slice Au bs.length cu]) (by simp) 0; simp only [List.getElem?_toArray, List.getElem?_cons_zero] at n0; have n1 := H4.out.cellOf (g := g) (t := 33) (cs := #[.int .i64 ok, .string (bstr n), .string (bstr to), .int .i64 at_, .slice Au bs.length cu]) (by simp) 1; simp only [List.getElem?_toArray, List.getElem?_cons_succ, List.getElem?_cons_zero] at n1; have n2 := H4.out.cellOf (g := g) (t := 33) (cs := #[.int .i64 ok, .string (bstr n), .string (bstr to), .int .i64 at_, .slice Au bs.length cu]) (by simp) 2; simp only [List.getElem?_toArray, List.getElem?_cons_succ, List.getElem?_cons_zero] at n2; have n3 := H4.out.cellOf (g := g) (t := 33) (cs := #[.int .i64 ok, .string (bstr n), .string (bstr to), .int .i64 at_, .slice Au bs.length cu]) (by simp) 3; simp only [List.getElem?_toArray, List.getElem?_cons_succ, List.getElem?_cons_zero] at n3; have n4 := H4.out.cellOf (g := g) (t := 33) (cs := #[.int .i64 ok, .string (bstr n), .string (bstr to), .int .i64 at_, .slice Au bs.length cu]) (by simp) 4; simp only [List.getElem?_toArray, List.getElem?_cons_succ, List.getElem?_cons_zero] at n4)
          | (go_at_call 13; (with_reducible refine (HRE.out _ _ _ H4.out).mono ?_); rintro e w5 ⟨rfl, d2, hS⟩; have H5 := Lib.hid hS.rot3.swap2; clear hS n0 n1 n2 n3 n4; have o1 := H5.out.cellOf (g := g) (t := 33) (cs := #[.int .i64 ok, .string (bstr n), .string (bstr to), .int .i64 at_, .slice Au bs.length cu]) (by simp) 1; simp only [List.getElem?_toArray, List.getElem?_cons_succ, List.getElem?_cons_zero] at o1)
          | (go_at_call 14; (with_reducible refine (same_c H5.out HNL.out HD.out.1).mono ?_); rintro e w6 ⟨rfl, hS⟩; have H6 := Lib.hid hS; clear hS))
        go_roundw
        case rel => exact ⟨q + 1, d', by omega, by go_num, HD2.out, H6.out.drop2.drop2.rot3.drop⟩
        case measure => simp [intOf]; omega
    · have hqi : ¬ (q : Int) < L.length := by omega
      go_wp2_with fail
      go_ret
      exact ⟨rfl, HS.out.b⟩
end
end Go.Proofs.Ytnpjfjgnhadmjaa

/- Maps of byte slices and of numbers as objects; what Get and Synced say of the i-th file. -/
namespace Go.Proofs.Ytnpjfjgnhadmjaa
open Go.RowKit Go.Maps Go.Deep
set_option linter.unusedVariables false

/-- a map as an object, whatever its elements -/
def aMapR (P : Program) (k : TypeId) (R : Value → Option (DataW Unit × List MemPlace)) (m : Nat) (D : DataW Unit) : Asn where
  at_ own w := own m ∧ ∃ n, w.ownsMap P k R m n D
  ext h hx hd := by
    obtain ⟨h1, n, es, clock, hb, r⟩ := h
    exact ⟨h1, n, es, clock, (hx.block m (Array.getElem?_eq_some_iff.1 hb).1 (hd _ h1)).trans hb, r⟩
  bound h := by
    obtain ⟨h1, n, h2⟩ := h
    exact ⟨⟨h1, h2.lt⟩, n, h2⟩
/-- elements that are slices or numbers, told whole -/
def valElem : Value → Option (DataW Unit × List MemPlace)
  | .slice none l c => some (.agg [.nil, .lit (.int .i64 (l : Int)), .lit (.int .i64 (c : Int))], [])
  | .slice (some ⟨g, o, none⟩) l c => some (.agg [.lit (.int .i64 (g : Int)), .lit (.int .i64 (o : Int)), .lit (.int .i64 (l : Int)), .lit (.int .i64 (c : Int))], [])
  | .int .i64 k => some (.lit (.int .i64 k), [])
  | _ => none
theorem valElem_inj {v u : Value} {y : DataW Unit} {p q : List MemPlace} (h : valElem v = some (y, p)) (k : valElem u = some (y, q)) : v = u := by
  unfold valElem at h k
  split at h <;> split at k <;> simp_all
  all_goals
    obtain ⟨h1, _⟩ := h
    obtain ⟨k1, _⟩ := k
    rw [← h1] at k1
    simp at k1 <;> first
      | omega
      | (simp_all; done)
      | (simp_all; omega)
theorem valElem_some {w : World} {base sz n : Nat} {e : TypeId} {v : Value} {xs : List Value} (h : w.ownsRow base e sz v n xs) : ∃ y, valElem v = some (y, []) := by
  rcases h.2 with ⟨rfl, _⟩ | ⟨g, cap, cur, rfl, _⟩
  · exact ⟨_, rfl⟩
  · exact ⟨_, rfl⟩
section
variable {W w : World} {P : Program} {k e T : TypeId} {R : Value → Option (DataW Unit × List MemPlace)} {m : Nat} {D : DataW Unit} {L : List Asn}
theorem aMapR.new (h : St W w L) : St W (w.alloc (.map #[] 0)) (aMapR P k R w.heap.size (.map []) :: L) :=
  h.add (B.alloc' _ _) (A := aMapR P k R w.heap.size (.map [])) (own := fun x => x = w.heap.size) ⟨rfl, 0, World.ownsMap_made w P k R⟩ (fun x e => by omega)
theorem aMapR.look (h : St W w (aMapR P k R m D :: L)) (K : Keyed P k) (ht : P.underlying T = some (.map k e)) {z : Value} (hz : (zeroValue e).run P w = .ok z w) {zd : DataW Unit} {zp : List MemPlace} (hzd : R z = some (zd, zp)) {key : Value} {kl : Lit} (hkey : keyOf P k key = some kl) :
    ∃ v ps, (Instr.lookup T (.map (some m)) key false).run P w = .ok v w ∧ R v = some (D.atKey kl zd, ps) := by
  obtain ⟨own, ⟨h1, n, hn⟩, _⟩ := h.get
  exact hn.lookup K ht hz hzd hkey
theorem aMapR.store (h : St W w (aMapR P k R m D :: L)) {N : Nat} (hD : ∃ E, D = .map E ∧ E.length ≤ N) (hN : N < maxLen) (K : Keyed P k) (ht : P.underlying T = some (.map k e)) {key val : Value} {kl : Lit} {d : DataW Unit} {ps : List MemPlace} (hkey : keyOf P k key = some kl) (hv : R val = some (d, ps)) :
    ∃ w', (Instr.mapUpdate T (.map (some m)) key val).run P w = .ok () w' ∧ St W w' (aMapR P k R m (D.put kl d) :: L) ∧ ∃ E, D.put kl d = .map E ∧ E.length ≤ N + 1 := by
  obtain ⟨own, ⟨h1, n, h2⟩, ho, hback⟩ := h.focus
  obtain ⟨E, rfl, hE⟩ := hD
  obtain ⟨w', r1, r2, r3⟩ := (ownsMap_tight h2).store K ht (by omega) hkey hv
  refine ⟨w', r1, hback w' (aMapR P k R m _) (Ext.of_grown r3.grown (fun x hx => by injection hx with hx; rw [← hx]; exact h1)) ⟨.inl h1, _, r2⟩, ?_⟩
  refine ⟨_, rfl, ?_⟩
  have := List.length_filter_le (fun p : Lit × DataW Unit => !p.1.sameKey kl) E
  rw [length_insert]
  omega
end
section
variable {d : Dk} {i : Nat} {f : Fl} {k : Int}
theorem may_at (h : d.ok) (ho : d.off = false) (hf : d.R[i]? = some f) : mayF d f.nm = (some i, 0) := by
  have hi : ixF f.nm d.R = some i := ixF_of hf rfl fun j hj g hg e => by
    have hil := at_lt hf
    have hjl := at_lt hg
    have := (List.pairwise_iff_getElem.1 h.rise) j i hjl hil hj
    rw [List.getElem?_eq_getElem hjl] at hg
    rw [List.getElem?_eq_getElem hil] at hf
    rw [Option.some.inj hg, Option.some.inj hf, e, bb_irr] at this
    cases this
  unfold mayF
  rw [ho, hi]
  rfl
theorem get_at (h : d.ok) (ho : d.off = false) (hf : d.R[i]? = some f) : getF d f.nm = (f.b, 0) := by
  unfold getF
  rw [may_at h ho hf]
  simp only
  rw [hf]
  rfl
theorem synced_at (h : d.ok) (ho : d.off = false) (hf : d.R[i]? = some f) : syncedF d f.nm = (f.sure, 0) := by
  unfold syncedF
  rw [may_at h ho hf]
  simp only
  rw [hf]
  rfl
theorem names_ne (h : d.ok) {j : Nat} {g : Fl} (hf : d.R[i]? = some f) (hg : d.R[j]? = some g) (hj : j < i) : Lit.string g.nm ≠ .string f.nm := fun e => by
  have hil := at_lt hf
  have hjl := at_lt hg
  have := (List.pairwise_iff_getElem.1 h.rise) j i hjl hil hj
  rw [List.getElem?_eq_getElem hjl] at hg
  rw [List.getElem?_eq_getElem hil] at hf
  rw [Option.some.inj hg, Option.some.inj hf, Lit.string.inj e, bb_irr] at this
  cases this
/-- what 'had' and 'done' say behind q rounds -/
structure Had (d : Dk) (q : Nat) (vs : List Value) (D1 D2 : DataW Unit) : Prop where
  len : vs.length = q
  had : ∀ (i : Nat) (f : Fl) (v : Value), i < q → d.R[i]? = some f → vs[i]? = some v → ∃ y, valElem v = some (y, []) ∧ ∀ z, D1.atKey (.string f.nm) z = y
  done : ∀ (i : Nat) (f : Fl), i < q → d.R[i]? = some f → ∀ z, D2.atKey (.string f.nm) z = .lit (.int .i64 (f.sure : Int))
  e1 : ∃ E, D1 = .map E ∧ E.length ≤ q
  e2 : ∃ E, D2 = .map E ∧ E.length ≤ q
theorem Had.start (d : Dk) : Had d 0 [] (.map []) (.map []) := ⟨rfl, fun i f v h => by omega, fun i f h => by omega, ⟨_, rfl, Nat.le_refl _⟩, ⟨_, rfl, Nat.le_refl _⟩⟩
theorem Had.step {q : Nat} {vs : List Value} {D1 D2 : DataW Unit} (h : Had d q vs D1 D2) (hd : d.ok) (hf : d.R[q]? = some f) {v : Value} {y : DataW Unit} (hv : valElem v = some (y, []))
    (h1 : ∃ E, D1.put (.string f.nm) y = .map E ∧ E.length ≤ q + 1) (h2 : ∃ E, D2.put (.string f.nm) (.lit (.int .i64 (f.sure : Int))) = .map E ∧ E.length ≤ q + 1) :
    Had d (q + 1) (vs ++ [v]) (D1.put (.string f.nm) y) (D2.put (.string f.nm) (.lit (.int .i64 (f.sure : Int)))) := by
  obtain ⟨hl, a1, a2, ⟨E1, e1, _⟩, ⟨E2, e2, _⟩⟩ := h
  refine ⟨by simp [hl], fun i g u hi hg hu => ?_, fun i g hi hg z => ?_, h1, h2⟩
  · by_cases e : i = q
    · subst e
      rw [hf] at hg
      obtain rfl := Option.some.inj hg
      rw [List.getElem?_append_right (by omega), hl, Nat.sub_self] at hu
      obtain rfl := Option.some.inj hu
      exact ⟨y, hv, fun z => atKey_put_same ⟨_, e1⟩ (by trivial) _ _⟩
    · rw [List.getElem?_append_left (by omega)] at hu
      obtain ⟨y2, k1, k2⟩ := a1 i g u (by omega) hg hu
      exact ⟨y2, k1, fun z => by rw [atKey_put_other (names_ne hd hf hg (by omega))]; exact k2 z⟩
  · by_cases e : i = q
    · subst e
      rw [hf] at hg
      obtain rfl := Option.some.inj hg
      exact atKey_put_same ⟨_, e2⟩ (by trivial) _ _
    · rw [atKey_put_other (names_ne hd hf hg (by omega))]
      exact a2 i g (by omega) hg z
end
end Go.Proofs.Ytnpjfjgnhadmjaa

/- DiskKeeps: the walk. -/
namespace Go.Proofs.Ytnpjfjgnhadmjaa
open Go.RowKit Go.Maps Go.Deep
set_option linter.unusedVariables false

section
variable {W w : World} {p r i : Nat} {d : Dk} {X : List Asn} {n : List UInt8} {A C D E F G : Asn} {k : Int} {f : Fl}
theorem St.rot5 (h : St W w (A :: C :: D :: E :: F :: X)) : St W w (F :: A :: C :: D :: E :: X) := h.perm (List.perm_middle (l₁ := [A, C, D, E]) (l₂ := X))
theorem St.rot6 (h : St W w (A :: C :: D :: E :: F :: G :: X)) : St W w (G :: A :: C :: D :: E :: F :: X) := h.perm (List.perm_middle (l₁ := [A, C, D, E, F]) (l₂ := X))
/-- behind a crash and a restart -/
def keptD (d : Dk) (k : Int) : Dk := { d with R := d.R.map (crashB k), off := false }
theorem kept_ok (h : d.ok) (k : Int) (ho : d.off = false) : (keptD d k).ok := by
  have h1 := crash_ok h k
  unfold crashF at h1
  rw [if_neg (by rw [ho]; simp)] at h1
  have h2 := restart_ok h1
  unfold restartF at h2
  exact h2
theorem crash_k (h : St W w (aDisk p d :: X)) (ho : d.off = false) (hk : -9223372036854775808 ≤ k ∧ k ≤ 9223372036854775807) : Calls Try.prog 19 #[.pointer (some ⟨p, 0, none⟩), .int .i64 k] w fun e w' => e = .returned (.int .i64 0) ∧ St W w' (aDisk p { d with R := d.R.map (crashB k), off := true } :: X) := by
  have := crash_c (k := k) h hk
  unfold crashF at this
  rw [if_neg (by rw [ho]; simp)] at this
  exact this
theorem restart_k (h : St W w (aDisk p { d with R := d.R.map (crashB k), off := true } :: X)) : Calls Try.prog 20 #[.pointer (some ⟨p, 0, none⟩)] w fun e w' => e = .returned (.int .i64 0) ∧ St W w' (aDisk p (keptD d k) :: X) := restart_c h
theorem kept_names (d : Dk) (k : Int) : (keptD d k).R.map Fl.nm = d.R.map Fl.nm := by
  unfold keptD
  simp only [List.map_map]
  apply List.map_congr_left
  intro f _
  rfl
theorem kept_at (hf : d.R[i]? = some f) (k : Int) : (keptD d k).R[i]? = some (crashB k f) := by simp [keptD, hf]
theorem get_i (h : St W w (aDisk p d :: X)) (hd : d.ok) (ho : d.off = false) (hf : d.R[i]? = some f) (hn : f.nm.length ≤ maxLen) : Calls Try.prog 17 #[.pointer (some ⟨p, 0, none⟩), .string (bstr f.nm)] w fun e w' => ∃ v, e = .returned (.tuple #[v, .int .i64 0]) ∧ St W w' (aBy v f.b :: aDisk p d :: X) := by
  have := get_c h hn
  rw [get_at hd ho hf] at this
  exact this
theorem synced_i (h : St W w (aDisk p d :: X)) (hd : d.ok) (ho : d.off = false) (hf : d.R[i]? = some f) (hn : f.nm.length ≤ maxLen) : Calls Try.prog 18 #[.pointer (some ⟨p, 0, none⟩), .string (bstr f.nm)] w fun e w' => e = .returned (.tuple #[.int .i64 (f.sure : Int), .int .i64 0]) ∧ w = w' := by
  have := synced_c h hn
  rw [synced_at hd ho hf] at this
  exact this
theorem zeroB (w : World) : (zeroValue 31).run Try.prog w = .ok (.slice none 0 0) w := by kernel_rfl
theorem zeroI (w : World) : (zeroValue 3).run Try.prog w = .ok (.int .i64 0) w := by kernel_rfl
abbrev aM1 (m : Nat) (D : DataW Unit) : Asn := aMapR Try.prog 9 valElem m D
theorem file_len (h : d.ok) (hf : d.R[i]? = some f) : f.b.length ≤ 4194304 := by
  have := used_drop hf
  have := h.used
  have := h.room
  omega
set_option maxRecDepth 20000 in
set_option maxHeartbeats 8000000 in
theorem diskKeeps_walk {W : World} {v : Value} {L : List OpV} {k : Int} (hL : Ops W v L) (hk : -9223372036854775808 ≤ k ∧ k ≤ 9223372036854775807) :
    Calls Try.prog 4 #[v, .int .i64 k] W fun e w' => e = .returned (.bool true) ∧ B W w' := by
  obtain ⟨A, c, rfl, hm1, hr⟩ := hL
  have HR := Lib.hid hr
  have HK := Lib.hid (show ¬ ((1024 : Int) < 0 ∨ 4194304 < (1024 : Int)) by decide)
  have HKK := Lib.hid hk
  have hs : (L.length : Int) ≤ 9223372036854775807 := by omega
  have hmm := @run_makeMap Try.prog
  clear hr hm1 hk
  go_enter Try.func4, Try.ntmps4
  go_wp2_with (first
    | (go_at_call 7; (with_reducible refine (live_c (St.nil W)).mono ?_); rintro e w1 ⟨rfl, hS⟩; have HS1 := Lib.hid hS; clear hS)
    | (go_at_call 8; (with_reducible refine (new_yes HS1.out HK.out).mono ?_); rintro e w2 ⟨p, rfl, hS⟩; have HS2 := Lib.hid hS; clear hS)
    | (go_at_call 9; (with_reducible refine (rnew_yes HS2.out HK.out).mono ?_); rintro e w3 ⟨r, rfl, hS⟩; have HS3 := Lib.hid hS.swap; clear hS))
  go_loopw [40] (fun i wr => ∃ (q : Nat) (d : Dk), q ≤ L.length ∧ i = .int .i64 (q : Int) ∧ Hid (nmOk d) ∧ Hid (St W wr [aDisk p d, aRdk r d])) (fun i _ => L.length - (intOf i).toNat)
  case atStart => exact ⟨0, _, Nat.zero_le _, rfl, nm_empty _ _, HS3.out⟩
  case round =>
    obtain ⟨q, d, hq, rfl, HD, HS⟩ := hrel
    clear HS1 HS2 HS3
    by_cases hlt : q < L.length
    · obtain ⟨b, off, rfl, hbl, hc⟩ := HR.out (by omega)
      obtain ⟨hok, _, hcells⟩ := hc q _ (List.getElem?_eq_getElem hlt)
      have hqi : (q : Int) < L.length := by omega
      generalize L[q] = o at *
      obtain ⟨d', hd'⟩ : ∃ d', (stepF d o).2 = d' := ⟨_, rfl⟩
      have HD2 := Lib.hid (show nmOk d' by rw [← hd']; exact nm_step HD.out hok)
      have hdk : d.ok := aRdk.ok HS.out.swap
      have HDO := Lib.hid (fun (w' : World) (Y : List Asn) (h : St W w' (aDisk p d :: aRdk r d :: Y)) => does_c h hok)
      obtain ⟨Au, cu, hux⟩ := hok.u.rd.slice
      rw [hd'] at HDO
      clear hd' hok hdk hc
      obtain ⟨ok, n, to, at_, u, bs⟩ := o
      simp only at hux HDO
      subst hux
      unfold OpV.cells at HDO hcells
      simp only at HDO hcells
      have k0 : wr.cell? ⟨b, off + q * 5 + 0, none⟩ = some (.int .i64 ok) := HS.out.b.cell (hcells 0 _ rfl)
      have k1 : wr.cell? ⟨b, off + q * 5 + 1, none⟩ = some (.string (bstr n)) := HS.out.b.cell (hcells 1 _ rfl)
      have k2 : wr.cell? ⟨b, off + q * 5 + 2, none⟩ = some (.string (bstr to)) := HS.out.b.cell (hcells 2 _ rfl)
      have k3 : wr.cell? ⟨b, off + q * 5 + 3, none⟩ = some (.int .i64 at_) := HS.out.b.cell (hcells 3 _ rfl)
      have k4 : wr.cell? ⟨b, off + q * 5 + 4, none⟩ = some (.slice Au bs.length cu) := HS.out.b.cell (hcells 4 _ rfl)
      simp only [Nat.add_zero] at k0
      have HS0 := Lib.hid (aBlk.new HS.out 33 #[.int .i64 ok, .string (bstr n), .string (bstr to), .int .i64 at_, .slice Au bs.length cu])
      clear hcells
      go_wp2_with (first
        | (go_at_call 11; (with_reducible refine (HDO.out _ _ HS0.out.rot3.rot3).mono ?_); rintro e w1 ⟨rfl, hS⟩; have H1 := Lib.hid hS.rot3.drop; clear hS k0 k1 k2 k3 k4))
      go_roundw
      case rel => exact ⟨q + 1, d', by omega, by go_num, HD2.out, H1.out⟩
      case measure => simp [intOf]; omega
    · have hqi : ¬ (q : Int) < L.length := by omega
      have hok := aRdk.ok HS.out.swap
      obtain ⟨_, k2⟩ := aRdk.cells HS.out.swap
      cases ho : d.off with
      | true =>
        rw [ho] at k2
        have HO := Lib.hid (offD_c HS.out)
        rw [ho] at HO
        clear ho hok
        go_wp2_with (first
          | (go_at_call 15; (with_reducible refine (HO.out).mono ?_); rintro e w2 ⟨rfl, rfl⟩))
        go_ret
        exact ⟨rfl, HS.out.b⟩
      | false =>
        rw [ho] at k2
        have HM := Lib.hid (show St W ((wr.alloc (.map #[] 0)).alloc (.map #[] 0)) [aM1 (wr.heap.size + 1) (.map []), aM1 wr.heap.size (.map []), aDisk p d, aRdk r d] from by
          have h1 := aMapR.new (P := Try.prog) (k := 9) (R := valElem) (aMapR.new (P := Try.prog) (k := 9) (R := valElem) HS.out)
          rw [show (wr.alloc (.map #[] 0)).heap.size = wr.heap.size + 1 by simp] at h1
          exact h1)
        have HOK := Lib.hid hok
        have HO := Lib.hid ho
        obtain ⟨N, hN⟩ : ∃ N : List (List UInt8), d.R.map Fl.nm = N := ⟨_, rfl⟩
        have HNN := Lib.hid hN
        obtain ⟨M, hM⟩ : ∃ M, N.length = M := ⟨_, rfl⟩
        have HMN := Lib.hid hM
        have HDM := Lib.hid (show d.R.length = M by rw [← hM, ← hN]; simp)
        have hM64 : M ≤ 64 := by have := HDM.out; have := hok.many; omega
        have HNL := Lib.hid (show ∀ f ∈ d.R, f.nm.length ≤ maxLen from fun f hf => by have := HD.out f hf; unfold maxLen; omega)
        have HGET := Lib.hid (fun (w' : World) (Y : List Asn) (q : Nat) (f : Fl) (hf : d.R[q]? = some f) (h : St W w' (aDisk p d :: Y)) => get_i h hok ho hf (HNL.out f (List.mem_of_getElem? hf)))
        have HSYN := Lib.hid (fun (w' : World) (Y : List Asn) (q : Nat) (f : Fl) (hf : d.R[q]? = some f) (h : St W w' (aDisk p d :: Y)) => synced_i h hok ho hf (HNL.out f (List.mem_of_getElem? hf)))
        have HKEY := Lib.hid (fun (f : Fl) (hf : f ∈ d.R) => keyN (HNL.out f hf))
        clear hok ho hN hM HS
        go_wp2_with (first
          | (go_at_call 16; (with_reducible refine (list_c HM.out.rot3).mono ?_); rintro e w1 ⟨v1, rfl, hS⟩; rw [HNN.out] at hS; have hs2 := (show St W w1 (aRow _ _ _ _ _ :: _) from hS).rowSlice; rw [HMN.out] at hs2; obtain ⟨A3, c3, rfl⟩ := hs2; have H1 := Lib.hid hS; clear hS))
        have H2 := Lib.hid (show St W w1 [aEls [] [], aM1 (wr.heap.size + 1) (.map []), aM1 wr.heap.size (.map []), aDisk p d, aStr (.slice A3 M c3) N] from
          aEls.nil H1.out.rot5.drop.swap.rot4.rot4)
        clear HM H1
        generalize wr.heap.size = m1 at *
        generalize m1 + 1 = m2 at *
        go_loopw [62] (fun i wr => ∃ (q : Nat) (vs : List Value) (D1 D2 : DataW Unit), q ≤ M ∧ i = .int .i64 q ∧ Hid (Had d q vs D1 D2) ∧ Hid (St W wr [aEls vs (d.R.take q), aM1 m2 D2, aM1 m1 D1, aDisk p d, aStr (.slice A3 M c3) N])) (fun i _ => M - (intOf i).toNat)
        case atStart => exact ⟨0, [], _, _, Nat.zero_le _, rfl, Had.start d, H2.out⟩
        case round =>
          obtain ⟨q, vs, D1, D2, hq, rfl, HA, HS⟩ := hrel
          clear H2
          have hrow : St W wr (aRow 9 1 (.slice A3 M c3) M (N.map fun n => .string (bstr n)) :: [aEls vs (d.R.take q), aM1 m2 D2, aM1 m1 D1, aDisk p d]) := by
            have := HS.out.rot5
            unfold aStr at this
            rw [HMN.out] at this
            exact this
          by_cases hlt : q < M
          · have hqi : (q : Int) < M := by omega
            obtain ⟨f, hf⟩ : ∃ f, d.R[q]? = some f := ⟨_, List.getElem?_eq_getElem (by have := HDM.out; omega)⟩
            obtain ⟨g, rfl⟩ := hrow.rowSome (by omega)
            have kx := hrow.rowAt (j := q) (x := .string (bstr f.nm)) (by rw [← HNN.out]; simp [hf])
            have HFE := Lib.hid hf
            have HKF := Lib.hid (HKEY.out f (List.mem_of_getElem? hf))
            have HG := Lib.hid (HGET.out wr _ q f hf HS.out.rot4)
            have HSY := Lib.hid (fun w' Y h => HSYN.out w' Y q f hf h)
            have HST := Lib.hid (fun (w1 : World) (v1 : Value) (h : St W w1 [aBy v1 f.b, aDisk p d, aEls vs (d.R.take q), aM1 m2 D2, aM1 m1 D1, aStr (.slice (some ⟨g, 0, none⟩) M c3) N]) =>
              show ∃ y, valElem v1 = some (y, []) ∧ ∃ w2, (Instr.mapUpdate 43 (.map (some m1)) (.string (bstr f.nm)) v1).run Try.prog w1 = .ok () w2 ∧ St W w2 [aM1 m1 (D1.put (.string f.nm) y), aBy v1 f.b, aDisk p d, aEls vs (d.R.take q), aM1 m2 D2, aStr (.slice (some ⟨g, 0, none⟩) M c3) N] ∧
                ∃ w3, (Instr.mapUpdate 44 (.map (some m2)) (.string (bstr f.nm)) (.int .i64 (f.sure : Int))).run Try.prog w2 = .ok () w3 ∧ St W w3 [aEls (vs ++ [v1]) (d.R.take (q + 1)), aM1 m2 (D2.put (.string f.nm) (.lit (.int .i64 (f.sure : Int)))), aM1 m1 (D1.put (.string f.nm) y), aDisk p d, aStr (.slice (some ⟨g, 0, none⟩) M c3) N] ∧
                Had d (q + 1) (vs ++ [v1]) (D1.put (.string f.nm) y) (D2.put (.string f.nm) (.lit (.int .i64 (f.sure : Int)))) from by
              obtain ⟨own, ha, _⟩ := h.get
              obtain ⟨y, hy⟩ := valElem_some ha.1
              obtain ⟨w2, r1, r2, r3⟩ := aMapR.store h.rot5 HA.out.e1 (by unfold maxLen; omega) strLaw Try.underlying43 HKF.out hy
              obtain ⟨w3, t1, t2, t3⟩ := aMapR.store r2.rot5 HA.out.e2 (by unfold maxLen; omega) strLaw Try.underlying44 HKF.out (show valElem (.int .i64 (f.sure : Int)) = some (.lit (.int .i64 (f.sure : Int)), []) from rfl)
              have h5 := els_snoc t2.rot5.rot4 (by rw [HA.out.len, List.length_take]; have := HDM.out; omega) (by have := file_len HOK.out hf; unfold big; omega)
              have e5 : d.R.take q ++ [f] = d.R.take (q + 1) := by
                have hql := at_lt hf
                have he : d.R[q] = f := by rw [List.getElem?_eq_getElem hql] at hf; exact Option.some.inj hf
                rw [List.take_succ_eq_append_getElem hql, he]
              rw [e5] at h5
              exact ⟨y, hy, w2, r1, r2, w3, t1, h5, HA.out.step HOK.out hf hy r3 t3⟩)
            clear hf hrow
            go_wp2_with (first
              | (go_at_call 17; (with_reducible refine (HG.out).mono ?_); rintro e w1 ⟨v1, rfl, hS⟩; obtain ⟨A1, c1, rfl⟩ := hS.bySlice; obtain ⟨y, _, w2, r1, h2, w3, t1, h3, hh⟩ := HST.out _ _ hS; have H2 := Lib.hid h2; have H3 := Lib.hid h3; have HH := Lib.hid hh; clear hS h2 h3 hh)
              | (at_mapUpdate; refine wpList_mapUpdate_run rfl (.tmp 67) (.tmp 68) (.tmp 72) 43 rfl rfl rfl rfl r1 ?_)
              | (go_at_call 18; (with_reducible refine (HSY.out _ _ H2.out.rot3).mono ?_); rintro e w4 ⟨rfl, rfl⟩)
              | (at_mapUpdate; refine wpList_mapUpdate_run rfl (.tmp 75) (.tmp 76) (.tmp 80) 44 rfl rfl rfl rfl t1 ?_))
            go_roundw
            case rel => exact ⟨q + 1, _, _, _, by omega, by go_num, HH.out, H3.out⟩
            case measure => simp [intOf]; omega
          · have hqe : q = M := by omega
            have hqi : ¬ (q : Int) < M := by omega
            subst hqe
            rw [List.take_of_length_le (by have := HDM.out; omega)] at HS hrow
            have HCR := Lib.hid (crash_k HS.out.rot4 HO.out HKK.out)
            have HKO := Lib.hid (kept_ok HOK.out k HO.out)
            have HLN := Lib.hid (show N.length ≤ 1000 by have := HMN.out; omega)
            have HNK := Lib.hid (show (keptD d k).R.map Fl.nm = N from (kept_names d k).trans HNN.out)
            clear HGET HSYN hrow
            go_wp2_with (first
              | (go_at_call 19; (with_reducible refine (HCR.out).mono ?_); rintro e w1 ⟨rfl, hS⟩; have H1 := Lib.hid (restart_k hS); clear hS)
              | (go_at_call 20; (with_reducible refine (H1.out).mono ?_); rintro e w2 ⟨rfl, hS⟩; have H2 := Lib.hid hS; clear hS)
              | (go_at_call 16; (with_reducible refine (list_c H2.out).mono ?_); rintro e w3 ⟨v3, rfl, hS⟩; rw [HNK.out] at hS; have H3 := Lib.hid hS.rot6; clear hS)
              | (go_at_call 21; (with_reducible refine (sequal_c H3.out HLN.out HLN.out).mono ?_); rintro e w4 ⟨rfl, hb4⟩; rw [decide_eq_true rfl]; have H4 := Lib.hid (H3.out.later hb4).drop2; clear hb4))
            clear H1 H2 H3 HCR HS
            go_loopw [101] (fun i wr => ∃ j : Nat, j ≤ q ∧ i = .int .i64 j ∧ Hid (St W wr [aStr (.slice A3 q c3) N, aDisk p (keptD d k), aEls vs d.R, aM1 m2 D2, aM1 m1 D1])) (fun i _ => q - (intOf i).toNat)
            case atStart => exact ⟨0, Nat.zero_le _, rfl, H4.out⟩
            case round =>
              obtain ⟨j, hj, rfl, HS⟩ := hrel
              clear H4
              by_cases hlt2 : j < q
              · have hji : (j : Int) < q := by omega
                obtain ⟨f, hf⟩ : ∃ f, d.R[j]? = some f := ⟨_, List.getElem?_eq_getElem (by have := HDM.out; omega)⟩
                have hrow : St W wr (aRow 9 1 (.slice A3 q c3) q (N.map fun n => .string (bstr n)) :: [aDisk p (keptD d k), aEls vs d.R, aM1 m2 D2, aM1 m1 D1]) := by
                  have := HS.out
                  unfold aStr at this
                  rw [HMN.out] at this
                  exact this
                obtain ⟨g, rfl⟩ := hrow.rowSome (by omega)
                have kx := hrow.rowAt (j := j) (x := .string (bstr f.nm)) (by rw [← HNN.out]; simp [hf])
                have hlf := HNL.out f (List.mem_of_getElem? hf)
                have hkf := kept_at hf k
                have hsu : f.sure ≤ f.b.length := HOK.out.sure f (List.mem_of_getElem? hf)
                obtain ⟨z1, z2, z3, z4⟩ := crashB_ok k hsu
                have hpre : decide (f.b.take (crashB k f).b.length = (crashB k f).b) = true := by
                  apply decide_eq_true
                  simp only [crashB, List.length_take]
                  rw [← List.take_eq_take_min]
                have HG := Lib.hid (get_i (f := crashB k f) HS.out.swap HKO.out rfl hkf hlf)
                have HSY := Lib.hid (fun w' Y (h : St W w' (aDisk p (keptD d k) :: Y)) => synced_i (f := crashB k f) h HKO.out rfl hkf hlf)
                have hfb := file_len HOK.out hf
                obtain ⟨u, hu⟩ : ∃ u, vs[j]? = some u := ⟨_, List.getElem?_eq_getElem (by have := HA.out.len; omega)⟩
                have HST := Lib.hid (fun (w1 : World) (v1 : Value) (h : St W w1 [aBy v1 (crashB k f).b, aDisk p (keptD d k), aStr (.slice (some ⟨g, 0, none⟩) q c3) N, aEls vs d.R, aM1 m2 D2, aM1 m1 D1]) =>
                  show (Instr.lookup 43 (.map (some m1)) (.string (bstr f.nm)) false).run Try.prog w1 = .ok u w1 ∧ (Instr.lookup 44 (.map (some m2)) (.string (bstr f.nm)) false).run Try.prog w1 = .ok (.int .i64 (f.sure : Int)) w1 ∧ Bs w1 u f.b ∧ Bs w1 v1 (crashB k f).b from by
                  obtain ⟨y, hy, hat⟩ := HA.out.had j f u hlt2 hf hu
                  obtain ⟨x1, p1, r1, r2⟩ := aMapR.look h.rot6 strLaw Try.underlying43 (zeroB w1) (show valElem (.slice none 0 0) = some _ from rfl) (keyN hlf)
                  rw [hat] at r2
                  obtain rfl := valElem_inj r2 hy
                  obtain ⟨x2, p2, s1, s2⟩ := aMapR.look h.rot5 strLaw Try.underlying44 (zeroI w1) (show valElem (.int .i64 0) = some _ from rfl) (keyN hlf)
                  rw [HA.out.done j f hlt2 hf] at s2
                  obtain rfl := valElem_inj s2 (show valElem (.int .i64 (f.sure : Int)) = some (.lit (.int .i64 (f.sure : Int)), []) from rfl)
                  obtain ⟨own, he, _⟩ := h.rot4.get
                  obtain ⟨u', e1, e2, _⟩ := he.1 j f hf
                  rw [hu] at e1
                  obtain rfl := Option.some.inj e1
                  exact ⟨r1, s1, e2, h.byBs (by unfold big; omega)⟩)
                obtain ⟨bl, hbl⟩ : ∃ bl : Nat, (crashB k f).b.length = bl := ⟨_, rfl⟩
                obtain ⟨su, hsu2⟩ : ∃ su : Nat, f.sure = su := ⟨_, rfl⟩
                have HBL := Lib.hid hbl
                have HSU := Lib.hid hsu2
                have HPRE := Lib.hid hpre
                have hcs : (crashB k f).sure = bl := z2.trans hbl
                rw [hcs] at HSY
                have hsb : ¬ (bl : Int) < (su : Int) := by omega
                have hnm : (crashB k f).nm = f.nm := rfl
                rw [hnm] at HG HSY
                rw [hsu2] at HST
                clear hf hrow hlf hkf hsu z1 z2 z3 z4 hpre hfb hu hbl hsu2 hcs hnm
                go_wp2_with (first
                  | (go_at_call 17; (with_reducible refine (HG.out).mono ?_); rintro e w1 ⟨v1, rfl, hS⟩; obtain ⟨A1, c1, hv⟩ := hS.bySlice; rw [HBL.out] at hv; subst hv; obtain ⟨r1, r2, r3, r4⟩ := HST.out _ _ hS; have H1 := Lib.hid hS; have R3 := Lib.hid r3; have R4 := Lib.hid r4; clear hS r3 r4)
                  | (go_at_call 18; (with_reducible refine (HSY.out _ _ H1.out.swap).mono ?_); rintro e w2 ⟨rfl, rfl⟩)
                  | (go_at_call 22; (with_reducible refine (hasPrefix_c R3.out R4.out).mono ?_); rintro e w3 ⟨rfl, rfl⟩; rw [HPRE.out]))
                go_roundw
                case rel => exact ⟨j + 1, by omega, by go_num, H1.out.drop.swap⟩
                case measure => simp [intOf]; omega
              · have hje : ¬ (j : Int) < q := by omega
                go_wp2_with fail
                go_ret
                exact ⟨rfl, HS.out.b⟩
end
end Go.Proofs.Ytnpjfjgnhadmjaa

/- DiskKeeps: for every list of operations of bulk at most 1048576 and every number the law returns true and leaves what it was handed as it was. -/
namespace Go.Proofs.Ytnpjfjgnhadmjaa
open Go.ChangeShapes Go.WideShapes Go.ChangeAt Go.RowKit Go.Deep Go.Joins
set_option linter.unusedVariables false

theorem diskKeeps_own : ownKnob Try.prog.godebug = none := by kernel_rfl
theorem diskKeeps_laid : laidOutB Try.prog = true := by kernel_rfl

set_option maxRecDepth 100000 in
theorem diskKeeps_contract (H : Type) (enc : TypeId × Value → H) (W : World) (base : Nat) (args : Array Value) (ds gs : List (DataW H)) (before : List MemPlace)
    (hval : ∀ (j : Nat) t v, Try.f4.params[j]? = some t → args[j]? = some v → Value.okWide Try.prog W .any base t v)
    (hW : DataW.Whole enc Try.prog Try.f4.params.toList Rows.diskKeepsSpec.vars false W args.toList ds gs before) (hk : Rows.uptoSmall H (ds ++ gs) = true) :
    Calls Try.prog 4 args W fun e W' => ∃ v, e = .returned v ∧ Rows.diskKeepsSpec.post enc Try.prog Try.f4 false true false false W args v W' := by
  have hW' := hW
  obtain ⟨p, q, hA0, hV, rfl, hfz, hnd⟩ := hW
  have hA : DataW.TrodAll enc Try.prog W 0 (fun _ => true) true Try.f4.params.toList args.toList ds p := hA0
  rw [Try.params4] at hA hval
  obtain ⟨rfl, rfl⟩ := trodVars_none hV
  have hB := uptoBound hk
  rw [List.append_nil] at hB
  obtain ⟨v0, vs0, d0, ds0, p0, q0, hargs, rfl, rfl, h0, r0⟩ := trodAll_cons hA
  obtain ⟨v1, vs1, d1, ds1, p1, q1, rfl, rfl, rfl, h1, r1⟩ := trodAll_cons r0
  obtain ⟨rfl, rfl, rfl⟩ := trodAll_nil r1
  obtain rfl : args = #[v0, v1] := by cases args; simp_all
  simp only [Rows.uptoBulkAll] at hB
  obtain ⟨n0, rfl, rfl, rfl, wn⟩ := open_int Try.underlying3 (hval 1 3 v1 rfl rfl) h1
  have hn : -9223372036854775808 ≤ n0 ∧ n0 ≤ 9223372036854775807 := by simpa [Lit.wf, IntKind.min, IntKind.max, IntKind.signed, IntKind.bits] using wn
  obtain ⟨L, hL⟩ := open_ops Try.underlying22 Try.underlying33 (by kernel_rfl) ⟨rfl, by kernel_rfl, Try.underlying3⟩ ⟨rfl, by kernel_rfl, Try.underlying9⟩ ⟨rfl, by kernel_rfl, Try.underlying9⟩ ⟨rfl, by kernel_rfl, Try.underlying3⟩ ⟨rfl, by kernel_rfl, Try.underlying31⟩ Try.underlying5 (by kernel_rfl) (hval 0 22 v0 rfl rfl) h0 (by omega)

  refine (diskKeeps_walk hL hn).mono fun e W' ⟨he, hg⟩ => ?_
  subst he
  exact ⟨_, rfl, law_post diskKeeps_laid (by kernel_rfl) rfl ⟨rfl, rfl, rfl⟩ (tb := 4) (by kernel_rfl) Try.underlying4 hW' hg⟩

set_option maxRecDepth 100000 in
theorem diskKeeps_lifted (os : Os) (started : os.Started) (H : Type) (enc : TypeId × Value → H) (F : Stop.Interp) :
    ReturnsInHanded {} Try.checked os 4 .any ((Rows.OpenSpec.upto Rows.diskKeepsSpec).pre6 enc Try.prog Try.f4 Rows.diskKeepsUptoRow.domain false) (((Rows.OpenSpec.upto Rows.diskKeepsSpec).at F).post enc Try.prog Try.f4 false true false false) := by
  refine returnsInHanded_of_cond (C := Try.checked) (s := Rows.OpenSpec.upto Rows.diskKeepsSpec) (k := Rows.uptoSmall) rfl diskKeeps_own started (by kernel_rfl) Try.func4
    (OpenSpec.witness (enc := enc) (C := Try.checked) (s := Rows.OpenSpec.upto Rows.diskKeepsSpec) (k := Rows.uptoSmall) rfl false ⟨#[], #[.slice none 0 0, .int .i64 0], []⟩ 8 (by kernel_rfl) (by kernel_rfl) (by kernel_rfl)
      (x := ([.nil, .lit (.int .i64 0)], [], [])) (by kernel_rfl) rfl (by kernel_rfl)) ?_
  intro W base args ds gs before hval hW _ hk _
  exact diskKeeps_contract H enc W base args ds gs before hval hW hk

theorem diskKeepsUpto_holds : Rows.DiskKeepsUptoSaid :=
  OpenClaim.holds_of_cond 4 Try.f4 rfl rfl rfl rfl rfl rfl rfl ⟨rfl, rfl, rfl, rfl, rfl⟩ rfl rfl rfl rfl rfl (by kernel_rfl) Try.func4 (by kernel_rfl)
    (of_decide_eq_true (by kernel_rfl)) (by unfold Func.isWrapper; first | (rw [if_pos (by decide +kernel)]; kernel_rfl) | (rw [if_neg (by decide +kernel)]; exact ⟨rfl, rfl⟩))
    (fun os started H enc _ F => diskKeeps_lifted os started H enc F)

end Go.Proofs.Ytnpjfjgnhadmjaa
