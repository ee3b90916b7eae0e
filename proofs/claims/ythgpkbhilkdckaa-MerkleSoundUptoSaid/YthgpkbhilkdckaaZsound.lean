/- MerkleSound: for every two lists of byte strings and every claim, together of bulk at most 1048576, the law returns true and leaves what it was handed as it was. -/
import Derived.Test.YthgpkbhilkdckaaZm4
/- MerkleSound: the walk. -/
namespace Go.Proofs.Ythgpkbhilkdckaa
open Go.RowKit Go.Deep
set_option linter.unusedVariables false

set_option maxRecDepth 20000 in
set_option maxHeartbeats 8000000 in
theorem sound_walk {W : World} {A A' : Option Addr} {c m n c' m' n' : Nat} {L L' : List (List UInt8)} (hu : Lss (fun g => g < W.heap.size) W (.slice A n c) L) (hL : L.length = n) (hn : n ≤ 40) (hlen : ∀ x ∈ L, x.length + 1 ≤ big)
    (hmn : (m : Int) ≤ 40 ∧ n = m ∨ ¬ (m : Int) ≤ 40 ∧ n = 40)
    (r1 : ∀ w' : World, (Instr.slice 46 (.slice A m c) none (some (.int .i64 (n : Int))) none).run Try.prog w' = .ok (.slice A n c) w')
    (r2 : ∀ w' : World, (Instr.sliceAt 46 (.slice A m c) none (some (.int .i64 (n : Int))) none).run Try.prog w' = .ok (.slice A n c) w')
    (hu' : Lss (fun g => g < W.heap.size) W (.slice A' n' c') L') (hL' : L'.length = n') (hn' : n' ≤ 40) (hlen' : ∀ x ∈ L', x.length + 1 ≤ big)
    (hmn' : (m' : Int) ≤ 40 ∧ n' = m' ∨ ¬ (m' : Int) ≤ 40 ∧ n' = 40)
    (r1' : ∀ w' : World, (Instr.slice 46 (.slice A' m' c') none (some (.int .i64 (n' : Int))) none).run Try.prog w' = .ok (.slice A' n' c') w')
    (r2' : ∀ w' : World, (Instr.sliceAt 46 (.slice A' m' c') none (some (.int .i64 (n' : Int))) none).run Try.prog w' = .ok (.slice A' n' c') w')
    {vl vp : Value} {i0 n0 d0 : Int} {b0 : Bool} {lb : List UInt8} {xs : List Int} (hlb : Bs W vl lb) (hlbl : lb.length + 1 ≤ big) (hxs : Is W vp xs) :
    Calls Try.prog 19 #[.slice A m c, .slice A' m' c', .agg #[vl, .int .i64 i0, .int .i64 n0, vp, .int .i64 d0, .bool b0]] W fun e w' => e = .returned (.bool true) ∧ B W w' := by
  obtain ⟨Al, cl, rfl⟩ := hlb.rd.slice
  obtain ⟨Ap, cp, hvp, _⟩ := id hxs
  subst hvp
  obtain ⟨nl, hnl⟩ : ∃ k, lb.length = k := ⟨_, rfl⟩
  obtain ⟨np, hnp⟩ : ∃ k, xs.length = k := ⟨_, rfl⟩
  rw [hnl] at hlb ⊢
  rw [hnp] at hxs ⊢
  have H0 := Lib.hid (aBlk.new (St.nil W) 131 #[(.slice Al nl cl), .int .i64 i0, .int .i64 n0, (.slice Ap np cp), .int .i64 d0, .bool b0])
  have HL := Lib.hid (live91 H0.out)
  obtain ⟨bk, hbk⟩ : ∃ bk, aBlk W.heap.size 131 #[(.slice Al nl cl), .int .i64 i0, .int .i64 n0, (.slice Ap np cp), .int .i64 d0, .bool b0] = bk := ⟨_, rfl⟩
  have HT := Lib.hid (fun (w : World) (h : St W w [bk]) => show Calls Try.prog 92 #[.slice none 0 0] w fun e w' => ∃ p r, e = .returned (.tuple #[.pointer (some ⟨p, 0, none⟩), .pointer (some ⟨r, 0, none⟩)]) ∧ St W w' [aTab p [], aRef r [], bk] from tables92 (Lss.nil _ W) h)
  have HR := Lib.hid (fun (w : World) (p r : Nat) (h : St W w [aTab p [], aRef r [], bk]) => St.root101 n' L' hL' hlen' [] w A' c' (by simp) (fun w' M' h' => ⟨_, hu'.later h'.b⟩) h)
  have hM0 := (rootF_bd _ L' rfl [] (by simp)).1
  have hI := SInv.start L L' (by omega) (by omega)
  generalize rootF [] L' = dT at *
  obtain ⟨d9, T0⟩ := dT
  simp only at hM0 HR hI
  have HR1 := Lib.hid (fun (w : World) (p r : Nat) (h : St W w [aTab p T0, aRef r [], bk]) => St.root101 n L hL hlen T0 w A c hM0 (fun w' M' h' => ⟨_, hu.later h'.b⟩) h)
  generalize rootF T0 L = dU at *
  obtain ⟨d, T1⟩ := dU
  simp only at HR1 hI
  have HI := Lib.hid hI
  have HU := Lib.hid hu
  have HLEN := Lib.hid hlen
  have HLL := Lib.hid hL
  obtain ⟨vs, hvs, hve⟩ := hu'.rd
  have HVS := Lib.hid hvs
  have HVE := Lib.hid (show ∀ (j : Nat) (x : List UInt8), (lb :: L')[j]? = some x → ∃ u, ([(.slice Al nl cl)] ++ vs)[j]? = some u ∧ Bs W u x by
    intro j x hj
    cases j with
    | zero => simp at hj; subst hj; exact ⟨(.slice Al nl cl), rfl, hlb⟩
    | succ j => exact hve j x (by simpa using hj))
  have HBL := Lib.hid (show ∀ x ∈ lb :: L', x.length + 1 ≤ big by
    intro x hx
    rcases List.mem_cons.1 hx with e | e
    · rw [e]; exact hlbl
    · exact hlen' x e)
  have o1 : ∀ x ∈ vs, x.oneCell' = true := by
    intro x hx
    obtain ⟨j, hj, e⟩ := List.mem_iff_getElem.1 hx
    have hj' : j < L'.length := by have := hvs.1; omega
    obtain ⟨u, h1, h2⟩ := hve j _ (List.getElem?_eq_getElem hj')
    rw [List.getElem?_eq_getElem hj] at h1
    injection h1 with h1
    obtain ⟨A9, c9, e9⟩ := h2.rd.slice
    rw [← e, h1, e9]; rfl
  have g1 : 1 + n' ≤ maxLen := by unfold maxLen; omega
  have g2 : (1 + n') * 24 ≤ 140737488355328 := by omega
  have hxs' := Lib.hid hxs
  rw [hL'] at HVS
  obtain ⟨k41, hk41⟩ : ∃ k, 1 + n' = k := ⟨_, rfl⟩
  have HN41 := Lib.hid (show (lb :: L').length = k41 by simp; omega)
  generalize lb :: L' = LA at *
  clear hu hu' hlen hlen' hI hL hL' hlb hlbl hxs hvs hve hM0
  have HK41 := Lib.hid (show k41 ≤ 41 by omega)
  have HN40 := Lib.hid (show n ≤ 40 by omega)
  rcases hmn with ⟨h40, rfl⟩ | ⟨h40, hn40⟩
  case' inr => rw [show (n : Int) = 40 by omega] at r1 r2; clear hn40
  all_goals
    rcases hmn' with ⟨h40', rfl⟩ | ⟨h40', hn40'⟩
    case' inr => rw [show (n' : Int) = 40 by omega] at r1' r2'; clear hn40'
  all_goals
    go_enter Try.func19, Try.ntmps19
    rw [hbk] at HL H0
    go_wp2_with (first
      | (go_at_call 91; (with_reducible refine HL.out.mono ?_); rintro e w1 ⟨rfl, hS⟩; have H1 := Lib.hid hS; clear hS))
    go_quiet (fail)
    go_wp2_with (first
      | (go_at_call 92; (with_reducible refine (HT.out _ (H1.out.drewN _)).mono ?_); rintro e w2 ⟨p, r, rfl, hS⟩; have H2 := Lib.hid hS; clear hS)
      | (go_at_call 101; (with_reducible refine (HR.out _ _ _ H2.out).mono ?_); rintro e w3 ⟨rfl, hS⟩; have H3 := Lib.hid hS; clear hS)
      | (go_at_call 101; (with_reducible refine (HR1.out _ _ _ H3.out).mono ?_); rintro e w4 ⟨rfl, hS⟩; subst hbk; have H4 := Lib.hid hS; have HA5 := Lib.hid (hS.add (B.alloc' w4 (.cells #[.slice Al nl cl] 47)) (A := aRow 47 1 (.slice (some ⟨w4.heap.size, 0, none⟩) 1 1) 1 [.slice Al nl cl]) (own := fun b => b = w4.heap.size) ⟨row_base (World.ownsRow_lit (base := w4.heap.size) (e := 47) (size := 1) w4 #[.slice Al nl cl] 1 (Nat.le_refl _) (by unfold maxLen; omega) rfl) (Nat.zero_le _), fun g hg => by simp [Value.ownBlock] at hg; exact hg.symm⟩ (fun x e => by omega)); have k40 := hS.cellOf (g := W.heap.size) (t := 131) (cs := #[(.slice Al nl cl), .int .i64 i0, .int .i64 n0, (.slice Ap np cp), .int .i64 d0, .bool b0]) (by simp) 0; simp at k40; clear hS)
      | (at_builtin; refine wpList_append_St rfl (.tmp 42) (.tmp 43) 46 rfl Try.underlying46 info47 rfl Nat.zero_lt_one rfl rfl HA5.out (HVS.out.later (H4.out.b.trans (B.alloc' _ _))) o1 g1 g2 ?_; intro A8 c8 w8 hS; have H8 := Lib.hid hS; clear hS HA5))
    obtain ⟨g8, hg8⟩ := St.rowSome H8.out (by omega)
    subst hg8
    have H9 := Lib.hid (show St W w8 [aTab p T1, aRow 47 1 (.slice (some ⟨g8, 0, none⟩) k41 c8) k41 ([.slice Al nl cl] ++ vs), aRef r [], aBlk W.heap.size 131 #[.slice Al nl cl, .int .i64 i0, .int .i64 n0, .slice Ap np cp, .int .i64 d0, .bool b0]] from by have h := H8.out.swap; rw [hk41] at h; exact h)
    clear H8 H0 k40 HL HT HR HR1 H1 H2 H3 H4
    have hk41p := HK41.out
    have hk41i : (k41 : Int) ≤ 41 := by have := HK41.out; omega
    go_loopw [46] (fun i wr => ∃ (q : Nat) (M : List (List UInt8)), q ≤ k41 ∧ i = .int .i64 q ∧ Hid (SInv M L d (200 + q)) ∧ Hid (St W wr [aTab p M, aRow 47 1 (.slice (some ⟨g8, 0, none⟩) k41 c8) k41 ([.slice Al nl cl] ++ vs), aRef r [], aBlk W.heap.size 131 #[.slice Al nl cl, .int .i64 i0, .int .i64 n0, .slice Ap np cp, .int .i64 d0, .bool b0]])) (fun i _ => k41 - (intOf i).toNat)
    case atStart => exact ⟨0, T1, by omega, rfl, HI.out, H9.out⟩
    case round =>
      obtain ⟨q, M, hq, rfl, HM, HS⟩ := hrel
      clear H9
      by_cases hlt : q < k41
      · have hqi : (q : Int) < k41 := by omega
        have hql : q < LA.length := by have := HN41.out; omega
        obtain ⟨vb, hvb, hbb⟩ := HVE.out q _ (List.getElem?_eq_getElem hql)
        have kq := HS.out.swap.rowAt hvb
        have HBB := Lib.hid hbb
        have HBX := Lib.hid (HBL.out _ (List.getElem_mem hql))
        generalize LA[q] = x at *
        obtain ⟨Ax, cx, hx⟩ := hbb.rd.slice
        obtain ⟨nx, hnx⟩ : ∃ k, x.length = k := ⟨_, rfl⟩
        rw [hnx] at hx
        subst hx
        have HM2 := Lib.hid (HM.out.step (by omega) ([0] ++ x))
        have HLF := Lib.hid (St.leaf93 HS.out (by have := HM.out.len; omega) (HBB.out.later HS.out.b) HBX.out)
        generalize sumM M ([0] ++ x) = M2 at *
        generalize sumN M ([0] ++ x) = z3 at *
        clear hbb hvb hql HM
        go_wp2_with (first
          | (go_at_call 93; (with_reducible refine HLF.out.mono ?_); rintro e w5 ⟨rfl, hS⟩; have H5 := Lib.hid hS; clear hS))
        clear HLF kq
        go_loopw [54] (fun i ws => ∃ k : Nat, k ≤ n ∧ i = .int .i64 k ∧ Hid (St W ws [aTab p M2, aRow 47 1 (.slice (some ⟨g8, 0, none⟩) k41 c8) k41 ([.slice Al nl cl] ++ vs), aRef r [], aBlk W.heap.size 131 #[.slice Al nl cl, .int .i64 i0, .int .i64 n0, .slice Ap np cp, .int .i64 d0, .bool b0]])) (fun i _ => n - (intOf i).toNat)
        case atStart => exact ⟨0, by omega, rfl, H5.out⟩
        case round =>
          obtain ⟨k, hk, rfl, HS2⟩ := hrel
          clear H5 HS
          by_cases hkn : k < n
          · have hki : (k : Int) < n := by omega
            have hkL : k < L.length := by have := HLL.out; omega
            obtain ⟨bL, oL, rfl, hcL⟩ : ∃ b off, A = some ⟨b, off, none⟩ ∧ ∀ i x, L[i]? = some x → ∃ v, W.cell? ⟨b, off + i, none⟩ = some v ∧ Bs W v x := by
              obtain ⟨A', c', e, _, _, _, hr⟩ := id HU.out
              injection e with e1 e2 e3
              subst e1
              obtain ⟨b, off, e4, h1, h2, h3⟩ := hr (by omega)
              exact ⟨b, off, e4, fun i x hx => by obtain ⟨v, k1, k2, _⟩ := h3 i x hx; exact ⟨v, k1, k2⟩⟩
            obtain ⟨vy, kW, hby⟩ := hcL k _ (List.getElem?_eq_getElem hkL)
            obtain ⟨ps, p1, p2, p3⟩ := HM2.out.yes (by omega) hkL
            have p3 := p3 x
            have hno := fun h => HM2.out.no hkL (b := x) (xs := xs) h
            have HBY := Lib.hid hby
            obtain ⟨Ay, cy, hy⟩ := hby.rd.slice
            have hM2l := HM2.out.len
            have hM2f := HM2.out.from_
            rw [HLL.out] at p3 hno
            have hlenH := HLEN.out
            generalize L[k] = y at *
            obtain ⟨ny, hny⟩ : ∃ k, y.length = k := ⟨_, rfl⟩
            rw [hny] at hy
            subst hy
            have KW := Lib.hid kW
            have KK := Lib.hid (fun w' (h : B W w') => h.cell KW.out)
            have kk := KK.out _ HS2.out.b
            have k3 : wr.cell? ⟨W.heap.size, 3, none⟩ = some (.slice Ap np cp) := HS2.out.cellOf (g := W.heap.size) (t := 131) (cs := #[.slice Al nl cl, .int .i64 i0, .int .i64 n0, .slice Ap np cp, .int .i64 d0, .bool b0]) (by simp) 3
            have HV1 := Lib.hid (St.ver103 HS2.out (by omega) (HBB.out.later HS2.out.b) HBX.out (hxs'.out.later HS2.out.b) d k n (by omega) (by omega))
            have HP := Lib.hid (fun (w' : World) (h : St W w' [aTab p M2, aRow 47 1 (.slice (some ⟨g8, 0, none⟩) k41 c8) k41 ([.slice Al nl cl] ++ vs), aRef r [], aBlk W.heap.size 131 #[.slice Al nl cl, .int .i64 i0, .int .i64 n0, .slice Ap np cp, .int .i64 d0, .bool b0]]) => St.prove102 L n HLL.out (by omega) hlenH k M2 w' (some ⟨bL, oL, none⟩) c hkn (by omega) hM2f (fun w' M' h' => ⟨_, HU.out.later h'.b⟩) h)
            rw [p1] at HP
            have HV2 := Lib.hid (fun (w' : World) (v : Value) (h : St W w' [aDg v ps, aTab p M2, aRow 47 1 (.slice (some ⟨g8, 0, none⟩) k41 c8) k41 ([.slice Al nl cl] ++ vs), aRef r [], aBlk W.heap.size 131 #[.slice Al nl cl, .int .i64 i0, .int .i64 n0, .slice Ap np cp, .int .i64 d0, .bool b0]]) => show Calls Try.prog 103 #[.pointer (some ⟨p, 0, none⟩), .int .i64 d, .slice Ax nx cx, .int .i64 (k : Int), .int .i64 (n : Int), v] w' fun e w'' => e = .returned (.bool (verF M2 d x k n ps)) ∧ B w' w'' by
              obtain ⟨own, ht, _⟩ := h.swap.get
              exact verify103 ht (by omega) (HBB.out.later h.b) HBX.out (h.dgIs p2) d k n (by omega) (by omega))
            have p4 : verF M2 d x k n ps = (x == y) := by rw [p3]; by_cases e : x = y <;> simp [e]
            rw [p4] at HV2
            have HEQ := Lib.hid (fun w' (h : B W w') => equal68 (HBB.out.later h) (HBY.out.later h))
            have hno2 : verF M2 d x k n xs = true → (x == y) = true := fun h => by simpa using hno h
            clear hno p1 p3 p4 kW hby hcL hM2l hM2f hlenH hkL
            generalize verF M2 d x k n xs = z at *
            generalize (x == y) = ee at *
            have q1 : (ee != ee) = false := by simp
            have P2 := Lib.hid p2
            clear p2
            cases z
            case' true =>
              have hee := hno2 rfl
              subst hee
            all_goals
              clear hno2
              go_wp2_with (first
                | (go_at_call 103; (with_reducible refine HV1.out.mono ?_); rintro e w6 ⟨rfl, hS⟩; have H6 := Lib.hid hS; have kk6 := KK.out _ hS.b; clear hS)
                | (go_at_call 68; (with_reducible refine (HEQ.out _ H6.out.b).mono ?_); rintro e w7 ⟨rfl, rfl⟩)
                | (go_at_call 102; (with_reducible refine (HP.out _ H6.out).mono ?_); rintro e w8 ⟨v8, rfl, hS⟩; obtain ⟨A9, c9, rfl⟩ := St.rowSlice hS; have H7 := Lib.hid hS; clear hS))
              have l1 : ∀ w', B w8 w' → w'.cell? ⟨bL, oL + k, none⟩ = some (.slice Ay ny cy) := fun w' h => KK.out _ (H7.out.b.trans h)
              have c1 := Lib.hid (fun w' (h : B w8 w') => HV2.out w' _ (H7.out.later h))
              have c2 := Lib.hid (fun w' (h : B w8 w') => HEQ.out w' (H7.out.b.trans h))
              go_region_held3 (fun w' => B w8 w') (first | assumption | exact (Below.refl _ _).drew | exact B.trans (by assumption) hS1 | exact B.trans (by assumption) (Below.refl _ _).drew) (first
                | (go_at_call 103; (with_reducible refine (c1.out _ (by assumption)).mono ?_); rintro e w9 ⟨rfl, hS1⟩)
                | (go_at_call 68; (with_reducible refine (c2.out _ (by assumption)).mono ?_); rintro e w10 ⟨rfl, rfl⟩))
              all_goals
                have hlast := ‹B w8 _›
                go_wp2_with fail
                go_roundw
                case rel => exact ⟨k + 1, by omega, by go_num, H7.out.drop.later hlast⟩
                case measure => simp [intOf]; omega
          · have hki : ¬ (k : Int) < n := by omega
            go_wp2_with fail
            go_roundw
            case rel => exact ⟨q + 1, M2, by omega, by go_num, HM2.out, HS2.out⟩
            case measure => simp [intOf]; omega
      · have hqi : ¬ (q : Int) < k41 := by omega
        go_wp2_with fail
        go_ret
        exact ⟨rfl, HS.out.b⟩
end Go.Proofs.Ythgpkbhilkdckaa

/- MerkleSound: for every two lists of byte strings and every claim, together of bulk at most 1048576, the law returns true and leaves what it was handed as it was. -/
namespace Go.Proofs.Ythgpkbhilkdckaa
open Go.ChangeShapes Go.WideShapes Go.ChangeAt Go.RowKit Go.Deep Go.Joins
set_option linter.unusedVariables false

theorem merkleSound_own : ownKnob Try.prog.godebug = none := by kernel_rfl
theorem merkleSound_laid : laidOutB Try.prog = true := by kernel_rfl

set_option maxRecDepth 100000 in
theorem merkleSound_contract (H : Type) (enc : TypeId × Value → H) (W : World) (base : Nat) (args : Array Value) (ds gs : List (DataW H)) (before : List MemPlace)
    (hval : ∀ (j : Nat) t v, Try.f19.params[j]? = some t → args[j]? = some v → Value.okWide Try.prog W .any base t v)
    (hW : DataW.Whole enc Try.prog Try.f19.params.toList Rows.merkleSoundSpec.vars false W args.toList ds gs before) (hk : Rows.uptoSmall H (ds ++ gs) = true) :
    Calls Try.prog 19 args W fun e W' => ∃ v, e = .returned v ∧ Rows.merkleSoundSpec.post enc Try.prog Try.f19 false true false false W args v W' := by
  have hW' := hW
  obtain ⟨p, q, hA0, hV, rfl, hfz, hnd⟩ := hW
  have hA : DataW.TrodAll enc Try.prog W 0 (fun _ => true) true Try.f19.params.toList args.toList ds p := hA0
  rw [Try.params19] at hA hval
  obtain ⟨rfl, rfl⟩ := trodVars_none hV
  have hB := uptoBound hk
  rw [List.append_nil] at hB
  obtain ⟨v0, vs0, d0, ds0, p0, q0, hargs, rfl, rfl, h0, r0⟩ := trodAll_cons hA
  obtain ⟨v1, vs1, d1, ds1, p1, q1, rfl, rfl, rfl, h1, r1⟩ := trodAll_cons r0
  obtain ⟨v2, vs2, d2, ds2, p2, q2, rfl, rfl, rfl, h2, r2⟩ := trodAll_cons r1
  obtain ⟨rfl, rfl, rfl⟩ := trodAll_nil r2
  obtain rfl : args = #[v0, v1, v2] := by cases args; simp_all
  simp only [Rows.uptoBulkAll] at hB
  obtain ⟨L, hL, hLl⟩ := open_bssU Try.underlying46 Try.underlying47 Try.underlying5 (by kernel_rfl) (by kernel_rfl) (hval 0 46 v0 rfl rfl) h0 (by omega)
  obtain ⟨A, m, c, n, rfl, a, b, d, e, f, g, i⟩ := leaves_cut hL (by omega)
  obtain ⟨L', hL', hL'l⟩ := open_bssU Try.underlying46 Try.underlying47 Try.underlying5 (by kernel_rfl) (by kernel_rfl) (hval 1 46 v1 rfl rfl) h1 (by omega)
  obtain ⟨A', m', c', n', rfl, a', b', d', e', f', g', i'⟩ := leaves_cut hL' (by omega)
  obtain ⟨c0, c1, c2, c3, c4, c5, y0, y1, y2, y3, y4, y5, m, rfl, rfl, rfl, hy0, hy1, hy2, hy3, hy4, hy5⟩ := open_agg6 Try.underlying131 (by kernel_rfl) (by kernel_rfl) (hval 2 131 v2 rfl rfl) h2
  simp only [Rows.uptoBulk, Rows.uptoBulkAll] at hB
  obtain ⟨Ac, lc, cc, hc0⟩ := slice_form Try.underlying47 hy0
  simp only [List.cons.injEq, and_true] at hc0
  subst hc0
  obtain ⟨lb, hlb, hlbl⟩ := bs_upto Try.underlying47 Try.underlying5 (by kernel_rfl) hy0 (by omega)
  obtain ⟨i0, e0, e0', w0⟩ := DataW.trod_int Try.underlying3 hy1
  obtain ⟨n0, e1, e1', w1⟩ := DataW.trod_int Try.underlying3 hy2
  obtain ⟨xs, hxs⟩ := open_is Try.underlying124 Try.underlying23 (by kernel_rfl) hy3
  obtain ⟨z0, e2, e2', w2⟩ := DataW.trod_int Try.underlying23 hy4
  obtain ⟨t0, e3, e3'⟩ := DataW.trod_bool Try.underlying4 hy5
  simp only [List.cons.injEq, and_true] at e0 e1 e2 e3
  subst e0 e1 e2 e3
  have w0 := i64_arg w0
  have w1 := i64_arg w1

  refine (sound_walk a b d e f g i a' b' d' e' f' g' i' hlb (by unfold big; omega) hxs).mono fun e W' ⟨he, hg⟩ => ?_
  subst he
  exact ⟨_, rfl, law_post merkleSound_laid (by kernel_rfl) rfl ⟨rfl, rfl, rfl⟩ (tb := 4) (by kernel_rfl) Try.underlying4 hW' hg⟩

set_option maxRecDepth 100000 in
theorem merkleSound_lifted (os : Os) (started : os.Started) (H : Type) (enc : TypeId × Value → H) (F : Stop.Interp) :
    ReturnsInHanded {} Try.checked os 19 .any ((Rows.OpenSpec.upto Rows.merkleSoundSpec).pre6 enc Try.prog Try.f19 Rows.merkleSoundUptoRow.domain false) (((Rows.OpenSpec.upto Rows.merkleSoundSpec).at F).post enc Try.prog Try.f19 false true false false) := by
  refine returnsInHanded_of_cond (C := Try.checked) (s := Rows.OpenSpec.upto Rows.merkleSoundSpec) (k := Rows.uptoSmall) rfl merkleSound_own started (by kernel_rfl) Try.func19
    (OpenSpec.witness (enc := enc) (C := Try.checked) (s := Rows.OpenSpec.upto Rows.merkleSoundSpec) (k := Rows.uptoSmall) rfl false ⟨#[], #[.slice none 0 0, .slice none 0 0, .agg #[.slice none 0 0, .int .i64 0, .int .i64 0, .slice none 0 0, .int .i64 0, .bool false]], []⟩ 8 (by kernel_rfl) (by kernel_rfl) (by kernel_rfl)
      (x := ([.nil, .nil, .agg [.nil, .lit (.int .i64 0), .lit (.int .i64 0), .nil, .lit (.int .i64 0), .lit (.bool false)]], [], [])) (by kernel_rfl) rfl (by kernel_rfl)) ?_
  intro W base args ds gs before hval hW _ hk _
  exact merkleSound_contract H enc W base args ds gs before hval hW hk

theorem merkleSoundUpto_holds : Rows.MerkleSoundUptoSaid :=
  OpenClaim.holds_of_cond 19 Try.f19 rfl rfl rfl rfl rfl rfl rfl ⟨rfl, rfl, rfl, rfl, rfl⟩ rfl rfl rfl rfl rfl (by kernel_rfl) Try.func19 (by kernel_rfl)
    (of_decide_eq_true (by kernel_rfl)) (by unfold Func.isWrapper; first | (rw [if_pos (by decide +kernel)]; kernel_rfl) | (rw [if_neg (by decide +kernel)]; exact ⟨rfl, rfl⟩))
    (fun os started H enc _ F => merkleSound_lifted os started H enc F)

end Go.Proofs.Ythgpkbhilkdckaa
