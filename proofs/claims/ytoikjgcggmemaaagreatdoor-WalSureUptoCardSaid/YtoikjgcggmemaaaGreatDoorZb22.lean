/- Lemmas and contracts, part 22. -/
import Derived.Test.YtoikjgcggmemaaaGreatDoorZb21
/- The numbers of a log's segments, on a disk whose files are its own. -/
namespace Go.Proofs.YtoikjgcggmemaaaGreatDoor
open Go.RowKit Go.Deep Go.Maps
set_option linter.unusedVariables false

def intV (n : Nat) : Value := .int .i64 (n : Int)
section
variable {W w : World} {p : Nat} {d : Dk} {X : List Asn}
theorem ins_len {M : List Nat} {n k : Nat} (hk : k ≤ M.length) : (M.take k ++ n :: M.drop k).length = M.length + 1 := by
  rw [List.length_append, List.length_cons, List.length_take, List.length_drop]; omega
theorem intV_ins (M : List Nat) (n k : Nat) : (M.map intV).take k ++ ([intV n] ++ (M.map intV).drop k) = (M.take k ++ n :: M.drop k).map intV := by
  rw [List.map_append, List.map_cons, List.map_take, List.map_drop]; rfl
theorem intV_one (M : List Nat) : ∀ x ∈ M.map intV, x.oneCell' = true := by
  intro x hx
  obtain ⟨n, _, rfl⟩ := List.mem_map.1 hx
  rfl
theorem intV_some {M : List Nat} {j x : Nat} (h : M[j]? = some x) : (M.map intV)[j]? = some (.int .i64 (x : Int)) := by
  rw [List.getElem?_map, h]; rfl
/-- what is read of the list so far: its front, and its back -/
theorem St.numsFront {g c : Nat} {M : List Nat} {k : Nat} (h : St W w (aRow 3 1 (.slice (some ⟨g, 0, none⟩) M.length c) M.length (M.map intV) :: X)) (hk : k ≤ M.length) : Rd w (.slice (some ⟨g, 0, none⟩) k k) k 1 ((M.map intV).take k) := by
  rcases h.rowRdd.take hk with h2 | ⟨h2, _⟩
  · rwa [Nat.mul_one] at h2
  · cases h2
theorem St.rowForm {e : TypeId} {sz n c : Nat} {A : Option Addr} {xs : List Value} (h : St W w (aRow e sz (.slice A n c) n xs :: X)) : n ≤ c ∧ (A = none ∧ n = 0 ∧ c = 0 ∨ ∃ g, A = some ⟨g, 0, none⟩) := by
  obtain ⟨own, hr, _⟩ := h.get
  obtain ⟨_, _, cap, e1, _, hc, _⟩ := Rd.of_own hr.1
  injection e1 with _ _ e3
  refine ⟨by omega, ?_⟩
  rcases hr.1.2 with ⟨h1, h2⟩ | ⟨g, cap, cur, h1, _⟩
  · injection h1 with h3 h4 h5
    exact .inl ⟨h3, h4, h5⟩
  · injection h1 with h3 h4 h5
    exact .inr ⟨g, h3⟩
theorem St.numsBack {g c : Nat} {M : List Nat} {k : Nat} (h : St W w (aRow 3 1 (.slice (some ⟨g, 0, none⟩) M.length c) M.length (M.map intV) :: X)) (hk : k ≤ M.length) : Rd w (.slice (if c = k then some ⟨g, 0, none⟩ else some ⟨g, k, none⟩) (M.length - k) (c - k)) (M.length - k) 1 ((M.map intV).drop k) := by
  have hc := h.rowForm.1
  split
  · rename_i e
    have e0 : M.length - k = 0 := by omega
    rw [e0, List.drop_of_length_le (by rw [List.length_map]; omega)]
    refine ⟨rfl, _, _, rfl, fun e => (by cases e), by omega, fun ad' had => ?_⟩
    exact ⟨fun h0 => absurd h0 (by omega), fun j x hj => by simp at hj⟩
  · exact h.rowRdd.dropAt hk
theorem intV_back (M : List Nat) (n k : Nat) : ∀ x ∈ [intV n] ++ (M.map intV).drop k, x.oneCell' = true := by
  intro x hx
  rcases List.mem_append.1 hx with h | h
  · simp at h; subst h; rfl
  · exact intV_one M x (List.mem_of_mem_drop h)
set_option maxRecDepth 20000 in
set_option maxHeartbeats 8000000 in
theorem numbers_n (hT : TabW W) (h : St W w (aDisk p d :: X)) {ns : List Nat} (hN : Nums d.R ns) (hns : ∀ n ∈ ns, n ≤ 9007199254740992) (hl : ns.length ≤ 64) :
    Calls Tryz.prog 22 #[.pointer (some ⟨p, 0, none⟩), .string (bstr nLog)] w fun e w' => ∃ (v : Value) (M : List Nat), e = .returned v ∧ M.Pairwise (· < ·) ∧ (∀ x, x ∈ M ↔ x ∈ ns) ∧ St W w' (aRow 3 1 v M.length (M.map intV) :: aDisk p d :: X) := by
  have HL := Lib.hid (list_c h)
  obtain ⟨e1, e2, e3⟩ := hN
  rw [e1] at HL
  have hsz : (bstr nLog).size = 3 := rfl
  have HCP := Lib.hid (fun (w' : World) (n : Nat) (hn : n ≤ 9007199254740992) => show Calls Tryz.prog 41 #[.string (bstr (fileN n)), .string (bstr nLog ++ ⟨#[46]⟩)] w' fun e w'' => e = .returned (.tuple #[.string (bstr (Lib.decDigits n)), .bool true]) ∧ w' = w'' from by
    have hb := dec_len16 hn
    have := cut_c (p := nLog ++ [46]) (s := Lib.itoa (n : Int)) w' (by rw [itoa_nat]; simp [nLog]; omega)
    rw [← bstr_add, itoa_nat] at this
    exact this)
  have HAT := Lib.hid (fun (w' : World) (n : Nat) (hn : n ≤ 9007199254740992) => atoi_n w' hn)
  have HIT := Lib.hid (fun (w' : World) (n : Nat) (hb : B W w') (hn : n ≤ 9007199254740992) => by
    have := itoa_c (n := n) (hT.later hb) (by omega)
    rw [itoa_nat] at this
    exact this)
  have HNS := Lib.hid (And.intro e2 (And.intro e3 hns))
  obtain ⟨m, hm⟩ : ∃ m, ns.length = m := ⟨_, rfl⟩
  have HM := Lib.hid hm
  rw [hm] at hl
  have hml : ((ns.map fileN).length) = m := by rw [List.length_map, hm]
  clear h e1 e2 e3 hns hm
  go_enter Tryz.func22, Tryz.ntmps22
  go_wp2_with (first | (go_at_call 36; (with_reducible refine HL.out.mono ?_); rintro e w1 ⟨v1, rfl, hS⟩; obtain ⟨A1, c1, hv⟩ := (show St W w1 (aRow _ _ _ _ _ :: _) from hS).rowSlice; rw [hml] at hv; subst hv; have H1 := Lib.hid hS; clear hS))
  go_loopw [5, 16] (fun o i wr => ∃ (q : Nat) (M : List Nat), q ≤ m ∧ i = .int .i64 q ∧ M.length = q ∧ Hid (M.Pairwise (· < ·) ∧ ∀ x, x ∈ M ↔ x ∈ ns.take q) ∧ Hid (St W wr (aRow 3 1 o M.length (M.map intV) :: aStr (.slice A1 m c1) (ns.map fileN) :: aDisk p d :: X))) (fun _ i _ => m - (intOf i).toNat)
  case atStart => exact ⟨0, [], by omega, rfl, rfl, ⟨List.Pairwise.nil, by simp⟩, H1.out.rowNil 3 1⟩
  case round =>
    obtain ⟨q, M, hq, rfl, hMl, HM1, HS⟩ := hrel
    clear H1
    by_cases hqm : q < m
    · have hqi : (q : Int) < m := by omega
      obtain ⟨n, hn⟩ : ∃ n, ns[q]? = some n := ⟨_, List.getElem?_eq_getElem (by have := HM.out; omega)⟩
      have hnm : n ∈ ns := List.mem_of_getElem? hn
      have hn3 : n ≤ 9007199254740992 := HNS.out.2.2 n hnm
      have hn1 : 1 ≤ n := HNS.out.2.1 n hnm
      have hrow := HS.out.swap
      unfold aStr at hrow
      rw [hml] at hrow
      obtain ⟨g1, rfl⟩ := hrow.rowSome (by omega)
      have kx := hrow.rowAt (j := q) (x := .string (bstr (fileN n))) (by rw [List.getElem?_map, List.getElem?_map, hn]; rfl)
      obtain ⟨A, c, rfl⟩ := HS.out.rowSlice
      subst hMl
      have hnM : n ∉ M := fun hx => by
        have h1 := (HM1.out.2 n).1 hx
        obtain ⟨j, hj⟩ := List.getElem?_of_mem h1
        rw [List.getElem?_take] at hj
        split at hj
        · rename_i hlt
          obtain ⟨h2, h3⟩ := List.getElem?_eq_some_iff.1 hj
          obtain ⟨h4, h5⟩ := List.getElem?_eq_some_iff.1 hn
          have := (List.pairwise_iff_getElem.1 HNS.out.1) j M.length h2 h4 hlt
          rw [h3, h5] at this
          exact this rfl
        · cases hj
      have HC1 := Lib.hid (fun w' => HCP.out w' n hn3)
      have HA1 := Lib.hid (fun w' => HAT.out w' n hn3)
      have HI1 := Lib.hid (fun w' hb => HIT.out w' n hb hn3)
      generalize bstr (Lib.decDigits n) = sb at HC1 HA1 HI1
      have hn1i : (1 : Int) ≤ (n : Int) := by omega
      have HNM := Lib.hid hnM
      have HNN := Lib.hid (And.intro hn hnm)
      clear hrow hn hnm hnM hq
      go_wp2_with (first
        | (go_at_call 41; (with_reducible refine (HC1.out _).mono ?_); rintro e w2 ⟨rfl, rfl⟩)
        | (go_at_call 42; (with_reducible refine (HA1.out _).mono ?_); rintro e w3 ⟨rfl, hb⟩; have H3 := Lib.hid (HS.out.later hb); clear hb)
        | (go_at_call 43; (with_reducible refine (HI1.out _ H3.out.b).mono ?_); rintro e w4 ⟨rfl, hb⟩; have H4 := Lib.hid (H3.out.later hb); clear hb))
      clear HC1 HA1 HI1 HCP HAT HIT kx
      go_loopw [12] (fun kv wr2 => ∃ k : Nat, kv = .int .i64 k ∧ k ≤ M.length ∧ wr2 = w4 ∧ Hid (∀ j x, k ≤ j → M[j]? = some x → n < x)) (fun kv _ => (intOf kv).toNat)
      case atStart => exact ⟨M.length, rfl, Nat.le_refl _, rfl, fun j x hj hx => by rw [List.getElem?_eq_none hj] at hx; cases hx⟩
      case round =>
        obtain ⟨k, rfl, hk, hwr, HGT⟩ := hrel
        subst hwr
        have hlen64 : M.length + 1 ≤ 64 := by omega
        have hcase : (∃ y, 0 < k ∧ M[k - 1]? = some y ∧ n < y) ∨ (k = 0 ∨ ∃ y, 0 < k ∧ M[k - 1]? = some y ∧ ¬ n < y) := by
          rcases Nat.eq_zero_or_pos k with h0 | h0
          · exact .inr (.inl h0)
          · have h1 : M[k - 1]? = some (M[k - 1]'(by omega)) := List.getElem?_eq_getElem (by omega)
            by_cases h2 : n < M[k - 1]'(by omega)
            · exact .inl ⟨_, h0, h1, h2⟩
            · exact .inr (.inr ⟨_, h0, h1, h2⟩)
        rcases hcase with ⟨y, h0, hy, hny⟩ | hout
        · obtain ⟨gb, rfl⟩ := H4.out.rowNSome (by omega)
          have ky := H4.out.rowN (intV_some hy)
          have hi0 : (0 : Int) < (k : Int) := by omega
          have hk1 : ((k : Int) - 1) = ((k - 1 : Nat) : Int) := by omega
          have hny2 : (n : Int) < (y : Int) := by omega
          have HY := Lib.hid hy
          clear hy
          go_wp2_with fail
          go_roundw
          case rel => exact ⟨k - 1, rfl, by omega, trivial, fun j x hj hx => by
            by_cases e : j = k - 1
            · subst e
              rw [HY.out] at hx
              injection hx with hx
              omega
            · exact HGT.out j x (by omega) hx⟩
          case measure => simp [intOf]; omega
        · have HO := Lib.hid (fun w' (hw : B wr w') => (H4.out.later hw).rowOne 3 (intV n))
          have HINS := Lib.hid (show (M.take k ++ n :: M.drop k).Pairwise (· < ·) from ins_asc HM1.out.1 HNM.out hk HGT.out (hout.imp id fun ⟨y, _, h1, h2⟩ => ⟨y, h1, h2⟩))
          have HMEM := Lib.hid (show ∀ x, x ∈ M.take k ++ n :: M.drop k ↔ x ∈ ns.take (M.length + 1) from fun x => by
            rw [ins_mem, HM1.out.2 x]
            have hlt : M.length < ns.length := by have := HM.out; omega
            rw [List.take_succ_eq_append_getElem hlt]
            have hg := HNN.out.1
            rw [List.getElem?_eq_getElem hlt] at hg
            injection hg with hg
            rw [hg, List.mem_append, List.mem_singleton]
            exact Or.comm)
          have e8 : k + (1 + (M.length - k)) = (M.take k ++ n :: M.drop k).length := by rw [ins_len hk]; omega
          have E8 := Lib.hid e8
          have E9 := Lib.hid (ins_len (n := n) hk)
          have E7 := Lib.hid (intV_ins M n k)
          have o5 := intV_one M
          have o6 := intV_back M n k
          have ob : ∀ x ∈ (M.map intV).drop k, x.oneCell' = true := fun x hx => o5 x (List.mem_of_mem_drop hx)
          clear e8
          obtain ⟨hcap, hA⟩ := H4.out.rowForm
          rcases hA with ⟨rfl, hM0, rfl⟩ | ⟨gb, rfl⟩
          · obtain rfl : M = [] := List.eq_nil_of_length_eq_zero hM0
            obtain rfl : k = 0 := by simpa using hk
            have HRB := Lib.hid (fun w' (hw : B wr w') => (Rd.nil w' 1))
            have HRF := Lib.hid (fun w' Y (hS : St W w' (aRow 3 1 (.slice none 0 0) 0 (([] : List Nat).map intV) :: Y)) => (Rd.nil w' 1))
            clear hout
            have ob0 : ∀ x ∈ ([] : List Value), x.oneCell' = true := by simp
            have o60 : ∀ x ∈ [intV n], x.oneCell' = true := by intro x hx; simp at hx; subst hx; rfl
            simp only [List.length_nil]
            go_wp2_with fail
            go_region_law (first
              | (refine step_append_St rfl (.tmp 67) (.tmp 70) 55 rfl Tryz.underlying55 infoI rfl Nat.zero_lt_one rfl rfl (HO.out _ (Below.refl _ _).drew) (Rd.nil _ 1) ob0 (by unfold maxLen; omega) (by omega) ?_; intro A5 c5 w5 hS; simp only [Nat.add_zero, List.append_nil] at hS; simp only [Nat.add_zero]; have H5 := Lib.hid hS; clear hS)
              | (refine step_append_St rfl (.tmp 65) (.tmp 71) 55 rfl Tryz.underlying55 infoI rfl Nat.zero_lt_one rfl rfl (H5.out.rowNil 3 1) (St.rowRdd H5.out) o60 (by unfold maxLen; omega) (by omega) ?_; intro A6 c6 w6 hS; simp only [Nat.zero_add, List.nil_append] at hS; simp only [Nat.zero_add]; have H6 := Lib.hid hS.drop2.drop2; clear hS))
            all_goals
              go_wp2_with fail
              go_roundw
              case rel => exact ⟨1, [n], by omega, by go_num, rfl, ⟨HINS.out, HMEM.out⟩, H6.out⟩
              case measure => simp [intOf]; omega
          · have HRB := Lib.hid (fun w' (hw : B wr w') => ((H4.out.later hw).numsBack hk))
            have HRF := Lib.hid (fun w' Y (hS : St W w' (aRow 3 1 (.slice (some ⟨gb, 0, none⟩) M.length c) M.length (M.map intV) :: Y)) => hS.numsFront hk)
            have hki : (0 : Int) ≤ (k : Int) := by omega
            have hkm : (k : Int) ≤ (M.length : Int) := by omega
            have hkc : (k : Int) ≤ (c : Int) := by omega
            have hkc2 : k ≤ c := by omega
            have g1 : 1 + (M.length - k) ≤ maxLen := by unfold maxLen; omega
            have g2 : (1 + (M.length - k)) * 8 ≤ 140737488355328 := by omega
            have g3 : k + (1 + (M.length - k)) ≤ maxLen := by unfold maxLen; omega
            have g4 : (k + (1 + (M.length - k))) * 8 ≤ 140737488355328 := by omega
            rcases hout with hz | ⟨y, h0, hy, hny⟩
            · have hz0 : ¬ (0 : Int) < (k : Int) := by omega
              clear hz
              go_wp2_with fail
              go_region_law (first
                | (refine step_append_St rfl (.tmp 67) (.tmp 70) 55 rfl Tryz.underlying55 infoI rfl Nat.zero_lt_one rfl rfl (HO.out _ (Below.refl _ _).drew) (HRB.out _ ((B.alloc' _ _).trans (Below.refl _ _).drew)) ob g1 g2 ?_; intro A5 c5 w5 hS; have H5 := Lib.hid hS; clear hS)
                | (refine step_append_fresh rfl (.tmp 65) (.tmp 71) 55 rfl Tryz.underlying55 infoI rfl rfl rfl H5.out (HRF.out _ _ H5.out.swap) (St.rowRdd H5.out) o6 (by omega) g3 g4 ?_; intro c6 w6 hS; rw [E7.out] at hS; have H6 := Lib.hid hS.drop2.drop2; clear hS))
              all_goals
                go_wp2_with fail
                go_roundw
                case rel => exact ⟨M.length + 1, M.take k ++ n :: M.drop k, by omega, by go_num, E9.out, ⟨HINS.out, HMEM.out⟩, by rw [← E8.out]; exact H6.out⟩
                case measure => simp [intOf]; omega
            · have ky := H4.out.rowN (intV_some hy)
              have hi0 : (0 : Int) < (k : Int) := by omega
              have hk1 : ((k : Int) - 1) = ((k - 1 : Nat) : Int) := by omega
              have hny2 : ¬ (n : Int) < (y : Int) := by omega
              clear hy
              go_wp2_with fail
              go_region_law (first
                | (refine step_append_St rfl (.tmp 67) (.tmp 70) 55 rfl Tryz.underlying55 infoI rfl Nat.zero_lt_one rfl rfl (HO.out _ (Below.refl _ _).drew) (HRB.out _ ((B.alloc' _ _).trans (Below.refl _ _).drew)) ob g1 g2 ?_; intro A5 c5 w5 hS; have H5 := Lib.hid hS; clear hS)
                | (refine step_append_fresh rfl (.tmp 65) (.tmp 71) 55 rfl Tryz.underlying55 infoI rfl rfl rfl H5.out (HRF.out _ _ H5.out.swap) (St.rowRdd H5.out) o6 (by omega) g3 g4 ?_; intro c6 w6 hS; rw [E7.out] at hS; have H6 := Lib.hid hS.drop2.drop2; clear hS))
              all_goals
                go_wp2_with fail
                go_roundw
                case rel => exact ⟨M.length + 1, M.take k ++ n :: M.drop k, by omega, by go_num, E9.out, ⟨HINS.out, HMEM.out⟩, by rw [← E8.out]; exact H6.out⟩
                case measure => simp [intOf]; omega
    · obtain rfl : q = m := by omega
      have hqi : ¬ (q : Int) < q := by omega
      go_wp2_with fail
      go_ret
      refine ⟨_, rfl, M, HM1.out.1, fun x => ?_, HS.out.drop2⟩
      rw [HM1.out.2 x, List.take_of_length_le (by have := HM.out; omega)]
end
end Go.Proofs.YtoikjgcggmemaaaGreatDoor

/- A log opened on the files of its segments, the last one maybe torn. -/
namespace Go.Proofs.YtoikjgcggmemaaaGreatDoor
open Go.RowKit Go.Deep Go.Maps
set_option linter.unusedVariables false

section
variable {W w : World} {p dp g off c : Nat} {H G : List (Sg × Value)} {T : List Sg} {sure : Int} {X : List Asn} {x : Sg × Value} {s t : Sg} {v u : Value} {b bs rest : List UInt8} {N k : Nat} {d d1 d' : Dk}
/-- a log while it is read: the segments L so far -/
def RdSt (W w : World) (p dp : Nat) (L : List Sg) (d : Dk) (X : List Asn) : Prop :=
  (L = [] ∧ St W w (aDisk dp d :: ([aBlk p 54 (logC dp 0 (.slice none 0 0))] ++ X))) ∨ (L ≠ [] ∧ ∃ (G : List (Sg × Value)) (g off c : Nat), G.map Prod.fst = L ∧ St W w (aDisk dp d :: (lgM p dp G 0 g off c ++ X)))
theorem RdSt.later {L : List Sg} {w' : World} (h : RdSt W w p dp L d X) (hb : B w w') : RdSt W w' p dp L d X := by
  rcases h with ⟨h1, h2⟩ | ⟨h1, G, g, off, c, h2, h3⟩
  · exact .inl ⟨h1, h2.later hb⟩
  · exact .inr ⟨h1, G, g, off, c, h2, h3.later hb⟩
theorem RdSt.row {L : List Sg} {A : Asn} (h : RdSt W w p dp L d (A :: X)) : ∃ Y, St W w (A :: Y) := by
  rcases h with ⟨h1, h2⟩ | ⟨h1, G, g, off, c, h2, h3⟩
  · exact ⟨_, h2.rot3⟩
  · exact ⟨_, St.deep (Y := aDisk dp d :: lgM p dp G 0 g off c) h3⟩
theorem RdSt.drop {L : List Sg} {A : Asn} (h : RdSt W w p dp L d (A :: X)) : RdSt W w p dp L d X := by
  rcases h with ⟨h1, h2⟩ | ⟨h1, G, g, off, c, h2, h3⟩
  · exact .inl ⟨h1, h2.rot3.drop⟩
  · exact .inr ⟨h1, G, g, off, c, h2, (St.deep (Y := aDisk dp d :: lgM p dp G 0 g off c) h3).drop⟩
theorem RdSt.below {L : List Sg} (h : RdSt W w p dp L d X) : B W w := by
  rcases h with ⟨h1, h2⟩ | ⟨h1, G, g, off, c, h2, h3⟩
  · exact h2.b
  · exact h3.b
theorem Torn.size (h : Torn T s rest d) : (segB s ++ rest).length ≤ 4194304 := by
  have h1 := used_one h.last
  have h2 := h.ok.used
  have h3 := h.ok.room
  simp only at h1
  omega
theorem Torn.size0 (h : Torn T s rest d) (ht : t ∈ T) : (segB t).length ≤ 4194304 := by
  have h1 := used_one (h.old ht)
  have h2 := h.ok.used
  have h3 := h.ok.room
  simp only [wholeF] at h1
  omega
theorem take_snoc {L : List Sg} {i : Nat} {t : Sg} (h : L[i]? = some t) : L.take (i + 1) = L.take i ++ [t] := by
  obtain ⟨h1, h2⟩ := List.getElem?_eq_some_iff.1 h
  rw [List.take_succ_eq_append_getElem h1, h2]
/-- what a segment's reading leaves -/
def ReadPost (W : World) (p dp : Nat) (T : List Sg) (s : Sg) (i : Nat) (d : Dk) (X : List Asn) (e : Ending) (w' : World) : Prop :=
  e = .returned (.int .i64 0) ∧ ∃ d', RdSt W w' p dp ((T ++ [s]).take (i + 1)) d' X ∧ (i < T.length → d' = d) ∧ (i = T.length → OnDisk T s s.L.length d' ∧ d'.room = d.room)
theorem reads_i (hT : TabW W) (hS : Segs T s N) (hN : N + 2 ≤ 1099511627776) (hR : Torn T s rest d) {i : Nat} {bl : Bool} (ht : (T ++ [s])[i]? = some t) (hbl : bl = decide (i = T.length)) (h : RdSt W w p dp ((T ++ [s]).take i) d X) :
    Calls Tryz.prog 24 #[.pointer (some ⟨p, 0, none⟩), .int .i64 (t.n : Int), .bool bl] w (ReadPost W p dp T s i d X) := by
  have htm := List.mem_of_getElem? ht
  have hts := hS.one_small (by omega) htm
  have ho := hS.one t htm
  have hL := hS.len t htm
  have hmany := hS.many
  have hil : i < T.length + 1 := by have := lt_of ht; simpa using this
  have fin : ∀ {P Q : Ending → World → Prop} {f : FuncId} {ar : Array Value}, Calls Tryz.prog f ar w P → (∀ e w', P e w' → Q e w') → Calls Tryz.prog f ar w Q := fun h1 h2 => h1.mono h2
  by_cases hi : i < T.length
  · have hne : ¬ i = T.length := by omega
    rw [decide_eq_false hne] at hbl
    subst hbl
    have htT : T[i]? = some t := by rw [List.getElem?_append_left hi] at ht; exact ht
    have hget : getF d (fileN t.n) = (segB t, 0) := get_mem hR.ok hR.on (hR.old (List.mem_of_getElem? htT))
    have hsz := hR.size0 (List.mem_of_getElem? htT)
    rcases h with ⟨h1, h2⟩ | ⟨h1, G, g, off, c, h2, h3⟩
    · obtain rfl : i = 0 := by
        rcases Nat.eq_zero_or_pos i with e | e
        · exact e
        · exfalso
          have := congrArg List.length h1
          simp at this
          omega
      refine fin (reads_first_mid hT hts ho.2.1 hL (rest := []) (by simp) unframe_nil hsz hget rfl h2) ?_
      rintro e w' ⟨vL, g', off', c', rfl, h4⟩
      refine ⟨rfl, d, .inr ⟨by rw [take_snoc ht]; simp, _, g', off', c', ?_, h4⟩, fun _ => rfl, fun e => absurd e hne⟩
      rw [take_snoc ht, h1]; rfl
    · have hi0 : 0 < i := by
        rcases Nat.eq_zero_or_pos i with e | e
        · subst e; simp at h1
        · exact e
      obtain ⟨s0, hs0⟩ : ∃ s0, (T ++ [s])[i - 1]? = some s0 := ⟨_, List.getElem?_eq_getElem (by simp; omega)⟩
      have hta : (T ++ [s]).take i = (T ++ [s]).take (i - 1) ++ [s0] := by rw [← take_snoc hs0]; congr 1; omega
      rw [hta] at h2
      obtain ⟨H, v, rfl, hH⟩ := map_snoc h2
      have hnx := (hS.next (i - 1) s0 t hs0 (by rw [show i - 1 + 1 = i by omega]; exact ht)).2
      have hgl : H.length + 2 ≤ 1099511627776 := by
        have := congrArg List.length hH
        simp at this
        omega
      refine fin (reads_next_mid hT hts ho.2.1 hL (rest := []) (by simp) unframe_nil hsz hget rfl (hS.one_small (by omega) (List.mem_of_getElem? hs0)) hnx hgl h3) ?_
      rintro e w' ⟨vL, g', off', c', rfl, h4⟩
      refine ⟨rfl, d, .inr ⟨by rw [take_snoc ht]; simp, _, g', off', c', ?_, h4⟩, fun _ => rfl, fun e => absurd e hne⟩
      rw [take_snoc ht, hta, List.map_append, h2]
      rfl
  · obtain rfl : i = T.length := by omega
    rw [decide_eq_true rfl] at hbl
    subst hbl
    obtain rfl : s = t := by simpa using ht
    have hget : getF d (fileN s.n) = (segB s ++ rest, 0) := get_mem hR.ok hR.on hR.last
    have hsz := hR.size
    have hall : (T ++ [s]).take (T.length + 1) = T ++ [s] := List.take_of_length_le (by simp)
    have hpre : (T ++ [s]).take T.length = T := List.take_left
    have key : ∀ w' d2 vL g' off' c', OnDisk T s s.L.length d2 → d2.room = d.room → ∀ G0 : List (Sg × Value), G0.map Prod.fst = T → St W w' (aDisk dp d2 :: (lgM p dp (G0 ++ [(s, vL)]) 0 g' off' c' ++ X)) → ReadPost W p dp T s T.length d X (.returned (.int .i64 0)) w' := by
      intro w' d2 vL g' off' c' k1 k2 G0 k3 k4
      refine ⟨rfl, d2, .inr ⟨by rw [hall]; simp, _, g', off', c', ?_, k4⟩, fun e => absurd e (by omega), fun _ => ⟨k1, k2⟩⟩
      rw [hall, List.map_append, k3]
      rfl
    rcases h with ⟨h1, h2⟩ | ⟨h1, G1, g, off, c, h2, h3⟩
    · have hTn : T = [] := by rw [hpre] at h1; exact h1
      by_cases hr : rest = []
      · subst hr
        obtain ⟨d2, e1, e2, e3⟩ := hR.sync hS
        refine fin (reads_first_whole hT hts ho.2.1 hL rfl unframe_nil hsz hget rfl e1 h2) ?_
        rintro e w' ⟨vL, g', off', c', rfl, h4⟩
        exact key _ _ _ _ _ _ e2 e3 [] hTn.symm h4
      · obtain ⟨d1, e0, d2, e1, e2, e3⟩ := hR.mend hS
        refine fin (reads_first_torn hT hts ho.2.1 hL rfl hR.un hsz hget hr e0 e1 h2) ?_
        rintro e w' ⟨vL, g', off', c', rfl, h4⟩
        exact key _ _ _ _ _ _ e2 e3 [] hTn.symm h4
    · have hi0 : 0 < T.length := by
        rcases Nat.eq_zero_or_pos T.length with e | e
        · rw [e] at h1; simp at h1
        · exact e
      obtain ⟨s0, hs0⟩ : ∃ s0, (T ++ [s])[T.length - 1]? = some s0 := ⟨_, List.getElem?_eq_getElem (by simp; omega)⟩
      have hta : (T ++ [s]).take T.length = (T ++ [s]).take (T.length - 1) ++ [s0] := by rw [← take_snoc hs0]; congr 1; omega
      rw [hta] at h2
      have hG1 : G1.map Prod.fst = T := by rw [h2, ← hta, hpre]
      obtain ⟨H, v, rfl, hH⟩ := map_snoc h2
      have hnx := (hS.next (T.length - 1) s0 s hs0 (by rw [show T.length - 1 + 1 = T.length by omega]; exact ht)).2
      have hgl : H.length + 2 ≤ 1099511627776 := by
        have := congrArg List.length hH
        simp at this
        omega
      have hs0s := hS.one_small (by omega) (List.mem_of_getElem? hs0)
      by_cases hr : rest = []
      · subst hr
        obtain ⟨d2, e1, e2, e3⟩ := hR.sync hS
        refine fin (reads_next_whole hT hts ho.2.1 hL rfl unframe_nil hsz hget rfl e1 hs0s hnx hgl h3) ?_
        rintro e w' ⟨vL, g', off', c', rfl, h4⟩
        exact key _ _ _ _ _ _ e2 e3 _ hG1 h4
      · obtain ⟨d1, e0, d2, e1, e2, e3⟩ := hR.mend hS
        refine fin (reads_next_torn hT hts ho.2.1 hL rfl hR.un hsz hget hr e0 e1 hs0s hnx hgl h3) ?_
        rintro e w' ⟨vL, g', off', c', rfl, h4⟩
        exact key _ _ _ _ _ _ e2 e3 _ hG1 h4
end
end Go.Proofs.YtoikjgcggmemaaaGreatDoor

/- Open on the files of several segments. -/
namespace Go.Proofs.YtoikjgcggmemaaaGreatDoor
open Go.RowKit Go.Deep Go.Maps
set_option linter.unusedVariables false

section
variable {W w : World} {p dp g off c : Nat} {H G : List (Sg × Value)} {T : List Sg} {sure : Int} {X : List Asn} {x : Sg × Value} {s t : Sg} {v u : Value} {b bs rest : List UInt8} {N k : Nat} {d d1 d' : Dk}
theorem Torn.names (hS : Segs T s N) (hN : N ≤ 9007199254740992) (h : Torn T s rest d) : ∀ f ∈ d.R, f.nm.length ≤ maxLen := by
  intro f hf
  rcases (h.mem f).1 hf with ⟨t, ht, rfl⟩ | rfl
  · exact fileN_max (hS.one_small hN (List.mem_append_left _ ht)).1
  · exact fileN_max (hS.one_small hN (by simp : s ∈ T ++ [s])).1
/-- the numbers of the segments -/
theorem numbers_s (hT : TabW W) (hS : Segs T s N) (hN : N ≤ 9007199254740992) (hR : Torn T s rest d) (h : St W w (aDisk dp d :: X)) :
    Calls Tryz.prog 22 #[.pointer (some ⟨dp, 0, none⟩), .string (bstr nLog)] w fun e w' => ∃ (g c : Nat), e = .returned (.slice (some ⟨g, 0, none⟩) (T.length + 1) c) ∧ St W w' (aRow 3 1 (.slice (some ⟨g, 0, none⟩) (T.length + 1) c) (T.length + 1) (((T ++ [s]).map Sg.n).map intV) :: aDisk dp d :: X) := by
  obtain ⟨ns, h1, h2⟩ := hR.nums hS
  have hns : ∀ n ∈ ns, n ≤ 9007199254740992 := by
    intro n hn
    obtain ⟨a, ha, rfl⟩ := List.mem_map.1 ((h2 n).1 hn)
    exact (hS.one_small hN ha).1
  have hl : ns.length ≤ 64 := by
    have e := congrArg List.length h1.1
    rw [List.length_map, List.length_map] at e
    rw [← e]
    exact hR.ok.many
  refine (numbers_n hT h h1 hns hl).mono ?_
  rintro e w' ⟨v, M, rfl, m1, m2, h'⟩
  obtain rfl : M = (T ++ [s]).map Sg.n := asc_eq m1 hS.asc (fun x => (m2 x).trans (h2 x))
  rw [show ((T ++ [s]).map Sg.n).length = T.length + 1 by simp] at h'
  obtain ⟨A, c, rfl⟩ := h'.rowSlice
  obtain ⟨g, rfl⟩ := h'.rowNSome (by omega)
  exact ⟨g, c, rfl, h'⟩
set_option maxRecDepth 20000 in
set_option maxHeartbeats 8000000 in
theorem open_m (hT : TabW W) (hS : Segs T s N) (hN : N + 2 ≤ 1099511627776) (hR : Torn T s rest d) (h : St W w (aDisk dp d :: X)) :
    Calls Tryz.prog 5 #[.pointer (some ⟨dp, 0, none⟩), .string (bstr nLog), .int .i64 64] w fun e w' => ∃ (p : Nat) (d' : Dk), e = .returned (.tuple #[.pointer (some ⟨p, 0, none⟩), .int .i64 0]) ∧ OnDisk T s s.L.length d' ∧ d'.room = d.room ∧ St W w' (aLgs p dp (T ++ [s]) s.last :: aDisk dp d' :: X) := by
  have HC := Lib.hid (clone_c h (hR.names hS (by omega)))
  have HM := Lib.hid (fun w' => may_c w' (n := nLog) (m := 64))
  rw [mayLog 64 (by omega)] at HM
  have HON := Lib.hid hR.on
  have HNU := Lib.hid (fun (w' : World) (Y : List Asn) (h' : St W w' (aDisk dp d :: Y)) => numbers_s hT hS (by omega) hR h')
  have HRI := Lib.hid (fun (w' : World) (p q : Nat) (a : Sg) (bl : Bool) (Y : List Asn) (ha : (T ++ [s])[q]? = some a) (hbl : bl = decide (q = T.length)) (h' : RdSt W w' p dp ((T ++ [s]).take q) d Y) => reads_i hT hS hN hR ha hbl h')
  have hmany := hS.many
  have HSM := Lib.hid (fun a (ha : a ∈ T ++ [s]) => hS.one_small (by omega) ha)
  have HCS := Lib.hid (fun (q : Nat) a b (ha : (T ++ [s])[q]? = some a) (hb : (T ++ [s])[0]? = some b) => hS.consec ha b hb)
  have HSS := Lib.hid (hS.small (by omega))
  obtain ⟨tl, htl⟩ : ∃ tl, T.length = tl := ⟨_, rfl⟩
  obtain ⟨hm, hhm⟩ : ∃ hm, tl + 1 = hm := ⟨_, rfl⟩
  have HAL := Lib.hid (show (T ++ [s]).length = hm by simp [htl, hhm])
  rw [htl] at HNU HRI hmany
  rw [hhm] at HNU
  have HTL := Lib.hid htl
  have HHM := Lib.hid hhm
  have r1 : IntKind.i64.wrap ((hm : Int) - 1) = (tl : Int) := wrapPred hhm (by omega)
  have r2 : ¬ (hm : Int) = 0 := by omega
  have r2b : ((hm : Int) == 0) = false := beq_eq_false_iff_ne.2 r2
  have r3 : (0 : Int) < (hm : Int) := by omega
  have r5 : tl < hm := by omega
  have hm53 : hm ≤ 1099511627776 := by omega
  obtain ⟨b0, hb0⟩ : ∃ b0, (T ++ [s])[0]? = some b0 := ⟨_, List.getElem?_eq_getElem (by simp)⟩
  have HB0 := Lib.hid hb0
  have hb0s := (HSM.out b0 (List.mem_of_getElem? hb0)).1
  clear h hT hS hR htl hhm hb0
  go_enter Tryz.func5, Tryz.ntmps5
  go_wp2_with (first
    | (go_at_call 19; (with_reducible refine HC.out.mono ?_); rintro e w1 ⟨c, rfl, hS⟩; have H1 := Lib.hid hS.drop; clear hS)
    | (go_at_call 20; (with_reducible refine (offD_c H1.out).mono ?_); rintro e w2 ⟨rfl, rfl⟩; rw [HON.out])
    | (go_at_call 21; (with_reducible refine (HM.out _).mono ?_); rintro e w3 ⟨rfl, hb⟩; have H3 := Lib.hid (show St W _ (aBlk w3.heap.size 54 (logC dp 0 (.slice none 0 0)) :: aDisk dp d :: X) from aBlk.new (H1.out.later hb) 54 #[.pointer (some ⟨dp, 0, none⟩), .string (bstr nLog), .int .i64 64, .slice none 0 0, .int .i64 0]); clear hb)
    | (go_at_call 22; (with_reducible refine (HNU.out _ _ H3.out.swap).mono ?_); rintro e w4 ⟨g, c, rfl, h'⟩; have H4 := Lib.hid h'; clear h'))
  obtain ⟨lp, hlp⟩ : ∃ lp, w3.heap.size = lp := ⟨_, rfl⟩
  rw [hlp] at H4 ⊢
  have HCE := Lib.hid (fun (w' : World) (Y : List Asn) (q : Nat) (a : Sg) (ha : (T ++ [s])[q]? = some a) (h' : St W w' (aRow 3 1 (.slice (some ⟨g, 0, none⟩) hm c) hm (((T ++ [s]).map Sg.n).map intV) :: Y)) => show w'.cell? ⟨g, q, none⟩ = some (.int .i64 (a.n : Int)) from h'.rowN (by rw [List.getElem?_map, List.getElem?_map, ha]; rfl))
  clear hlp
  go_loopw [51] (fun i wr => wr = w4 ∧ ∃ q : Nat, q ≤ hm ∧ i = .int .i64 (q : Int)) (fun i _ => hm - (intOf i).toNat)
  case atStart => exact ⟨rfl, 0, by omega, rfl⟩
  case round =>
    obtain ⟨hwr, q, hq, rfl⟩ := hrel
    subst hwr
    by_cases hqm : q < hm
    · obtain ⟨a, ha⟩ : ∃ a, (T ++ [s])[q]? = some a := ⟨_, List.getElem?_eq_getElem (by have := HAL.out; omega)⟩
      have cq := HCE.out _ _ q a ha H4.out
      have c0 := HCE.out _ _ 0 b0 HB0.out H4.out
      have hcon := HCS.out q a b0 ha HB0.out
      have hqi : (q : Int) < (hm : Int) := by omega
      have hadd : (b0.n : Int) + (q : Int) = (a.n : Int) := by omega
      have hab : (a.n : Int) ≤ 9007199254740992 := by have := (HSM.out a (List.mem_of_getElem? ha)).1; omega
      have hab0 : (0 : Int) ≤ (a.n : Int) := by omega
      clear ha hcon
      generalize (a.n : Int) = an at *
      generalize (b0.n : Int) = bn at *
      go_wp2_with fail
      go_roundw
      case rel => exact ⟨trivial, q + 1, by omega, by go_num⟩
      case measure => simp [intOf]; omega
    · obtain rfl : q = hm := by omega
      go_wp2_with fail
      go_loopw [66] (fun i wr2 => ∃ (q2 : Nat) (d1 : Dk), q2 ≤ q ∧ i = .int .i64 (q2 : Int) ∧ Hid (RdSt W wr2 lp dp ((T ++ [s]).take q2) d1 (aRow 3 1 (.slice (some ⟨g, 0, none⟩) q c) q (((T ++ [s]).map Sg.n).map intV) :: X) ∧ (q2 < q → d1 = d) ∧ (q2 = q → OnDisk T s s.L.length d1 ∧ d1.room = d.room))) (fun i _ => q - (intOf i).toNat)
      case atStart => exact ⟨0, d, by omega, rfl, .inl ⟨rfl, H4.out.rot3.rot3⟩, fun _ => rfl, fun e => by omega⟩
      case round =>
        obtain ⟨q2, d1, hq2, rfl, HR⟩ := hrel
        by_cases hqm2 : q2 < q
        · obtain ⟨a, ha⟩ : ∃ a, (T ++ [s])[q2]? = some a := ⟨_, List.getElem?_eq_getElem (by have := HAL.out; omega)⟩
          obtain ⟨hr1, hr2, hr3⟩ := HR.out
          obtain rfl := hr2 hqm2
          obtain ⟨Y, hY⟩ := hr1.row
          have cq := HCE.out _ _ q2 a ha hY
          have HA := Lib.hid ha
          have HR1 := Lib.hid hr1
          have hqi : (q2 : Int) < (q : Int) := by omega
          clear HR hr1 hr2 hr3 hY ha
          have hends : ∀ (wz : World), ReadPost W lp dp T s q2 d1 (aRow 3 1 (.slice (some ⟨g, 0, none⟩) q c) q (((T ++ [s]).map Sg.n).map intV) :: X) (.returned (.int .i64 0)) wz → ∃ d2, RdSt W wz lp dp ((T ++ [s]).take (q2 + 1)) d2 (aRow 3 1 (.slice (some ⟨g, 0, none⟩) q c) q (((T ++ [s]).map Sg.n).map intV) :: X) ∧ (q2 + 1 < q → d2 = d1) ∧ (q2 + 1 = q → OnDisk T s s.L.length d2 ∧ d2.room = d1.room) := by
            rintro wz ⟨_, d2, k1, k2, k3⟩
            have e1 := HTL.out
            have e2 := HHM.out
            exact ⟨d2, k1, fun e => k2 (by omega), fun e => k3 (by omega)⟩
          have HEN := Lib.hid hends
          clear hends
          by_cases hlast : q2 = tl
          · have HBT := Lib.hid (show true = decide (q2 = tl) from (decide_eq_true hlast).symm)
            have r1q : IntKind.i64.wrap ((q : Int) - 1) = (q2 : Int) := by rw [hlast]; exact r1
            clear hlast r1
            go_wp2_with (first
              | (go_at_call 24; (with_reducible refine (HRI.out _ _ _ _ _ _ HA.out HBT.out HR1.out).mono ?_); rintro e w6 hP; obtain ⟨rfl, _⟩ := id hP; have HP := Lib.hid (HEN.out _ hP); clear hP))
            go_roundw
            case rel =>
              obtain ⟨d2, k1, k2, k3⟩ := HP.out
              exact ⟨q2 + 1, d2, by omega, by go_num, k1, k2, k3⟩
            case measure => simp [intOf]; omega
          · have hl1 : ¬ (q2 : Int) = (tl : Int) := by omega
            have HBT := Lib.hid (show ((q2 : Int) == (tl : Int)) = decide (q2 = tl) by rw [decide_eq_false hlast]; exact beq_eq_false_iff_ne.2 hl1)
            clear hlast
            go_wp2_with (first
              | (go_at_call 24; (with_reducible refine (HRI.out _ _ _ _ _ _ HA.out HBT.out HR1.out).mono ?_); rintro e w6 hP; obtain ⟨rfl, _⟩ := id hP; have HP := Lib.hid (HEN.out _ hP); clear hP))
            go_roundw
            case rel =>
              obtain ⟨d2, k1, k2, k3⟩ := HP.out
              exact ⟨q2 + 1, d2, by omega, by go_num, k1, k2, k3⟩
            case measure => simp [intOf]; omega
        · obtain rfl : q2 = q := by omega
          obtain ⟨hr1, hr2, hr3⟩ := HR.out
          obtain ⟨hD1, hD2⟩ := hr3 rfl
          have hr4 := hr1.drop
          rw [List.take_of_length_le (by have := HAL.out; omega)] at hr4
          rcases hr4 with ⟨k1, _⟩ | ⟨_, G, g2, off, c2, k2, k3⟩
          · simp at k1
          · obtain ⟨H, v, rfl, hH⟩ := map_snoc k2
            have HLA := Lib.hid (LLast_m (lgM.front [_] k3) HSS.out)
            have H5 := Lib.hid (lgM.front [_] k3)
            have HDD := Lib.hid (And.intro hD1 hD2)
            have HK2 := Lib.hid k2
            clear HR hr1 hr2 hr3 hD1 hD2 k2 k3 hH
            go_wp2_with (first
              | (go_at_call 13; (with_reducible refine HLA.out.mono ?_); rintro e w6 ⟨rfl, hb⟩; have H6 := Lib.hid (H5.out.later hb); have m4 := (lgM.cells H6.out).2.2.2.2; have f4 := (aBlk.get H6.out).frozen 4; clear hb))
            go_ret2
            exact ⟨_, d1, rfl, HDD.out.1, HDD.out.2, aLgs.shut HK2.out (lgM.setSure H6.out s.last)⟩
end
end Go.Proofs.YtoikjgcggmemaaaGreatDoor

/- A map from numbers to byte slices of its own, as an object. -/
namespace Go.Proofs.YtoikjgcggmemaaaGreatDoor
open Go.RowKit Go.Deep Go.Maps
set_option linter.unusedVariables false

/-- what such a map tells: at most q keys; at i the bytes F i -/
def aHad (m q : Nat) (F : Nat → Option (List UInt8)) : Asn where
  at_ own w := own m ∧ ∃ n D, w.ownsMap Tryz.prog 2 valAt m n D ∧ (∃ E, D = .map E ∧ E.length ≤ q) ∧ ∀ (i : Nat) (b : List UInt8), F i = some b → ∃ v y, valAt v = some (y, []) ∧ (∀ z, D.atKey (.int .i64 (i : Int)) z = y) ∧ w.ownsRow 0 5 1 v b.length (cellsB b) ∧ b.length ≤ big ∧ ∀ g, v.ownBlock = some g → own g
  ext h hx hd := by
    obtain ⟨h1, n, D, ⟨es, clock, hb, r⟩, hE, hF⟩ := h
    refine ⟨h1, n, D, ⟨es, clock, (hx.block m (Array.getElem?_eq_some_iff.1 hb).1 (hd _ h1)).trans hb, r⟩, hE, fun i b hi => ?_⟩
    obtain ⟨v, y, k1, k2, k3, k4, k5⟩ := hF i b hi
    exact ⟨v, y, k1, k2, row_ext k3 hx (fun g hg => hd g (k5 g hg)), k4, k5⟩
  bound h := by
    obtain ⟨h1, n, D, hm, hE, hF⟩ := h
    refine ⟨⟨h1, hm.lt⟩, n, D, hm, hE, fun i b hi => ?_⟩
    obtain ⟨v, y, k1, k2, k3, k4, k5⟩ := hF i b hi
    exact ⟨v, y, k1, k2, k3, k4, fun g hg => ⟨k5 g hg, row_lt k3 hg⟩⟩
def upd (F : Nat → Option (List UInt8)) (n : Nat) (b : List UInt8) : Nat → Option (List UInt8) := fun i => if i = n then some b else F i
section
variable {W w : World} {m q : Nat} {F : Nat → Option (List UInt8)} {L : List Asn}
theorem aHad.new (h : St W w L) : St W (w.alloc (.map #[] 0)) (aHad w.heap.size 0 (fun _ => none) :: L) :=
  h.add (B.alloc' _ _) (A := aHad w.heap.size 0 (fun _ => none)) (own := fun x => x = w.heap.size) ⟨rfl, 0, _, World.ownsMap_made w Tryz.prog 2 valAt, ⟨_, rfl, Nat.le_refl _⟩, fun i b hi => by cases hi⟩ (fun x e => by omega)
theorem aHad.look (h : St W w (aHad m q F :: L)) {i : Nat} (hi9 : i ≤ 9007199254740992) {b : List UInt8} (hi : F i = some b) : ∃ v, (Instr.lookup 31 (.map (some m)) (.int .i64 (i : Int)) false).run Tryz.prog w = .ok v w ∧ Bs w v b := by
  obtain ⟨own, ⟨h1, n, D, hm, hE, hF⟩, _⟩ := h.get
  obtain ⟨u, y, k1, k2, k3, k4, k5⟩ := hF i b hi
  obtain ⟨v, ps, h2, h3⟩ := hm.lookup i64Law Tryz.underlying31 (zeroBy w) (show valAt (.slice none 0 0) = some (_, []) from rfl) (keyI (n := (i : Int)) (by omega))
  rw [k2] at h3
  obtain rfl := valAt_inj h3 k1
  exact ⟨v, h2, Bs.of_own k3 k4⟩
theorem aHad.store {v : Value} {b : List UInt8} (h : St W w (aHad m q F :: aBy v b :: L)) (hq : q < maxLen) (hb : b.length ≤ big) {n : Nat} (hn : n ≤ 9007199254740992) :
    ∃ w', (Instr.mapUpdate 31 (.map (some m)) (.int .i64 (n : Int)) v).run Tryz.prog w = .ok () w' ∧ St W w' (aHad m (q + 1) (upd F n b) :: L) := by
  obtain ⟨own, ⟨o1, o2, k1, k2, k3, ⟨h1, n0, D, hm, ⟨E, rfl, hE⟩, hF⟩, ⟨h4, h5⟩⟩, ho, hback⟩ := h.merge.focus
  obtain ⟨y, hy⟩ := valBs (Bs.of_own h4 hb)
  obtain ⟨w', r1, r2, r3⟩ := (ownsMap_tight hm).store i64Law Tryz.underlying31 (by omega) (keyI (n := (n : Int)) (by omega)) hy
  have hx : Ext (fun x => x = m) w w' := Ext.of_grown r3.grown (fun x hx => show x = m from (Option.some.inj hx).symm)
  have hmb : ∀ {u : Value} {c : List UInt8}, w.ownsRow 0 5 1 u c.length (cellsB c) → ∀ g, u.ownBlock = some g → ¬ g = m := fun hr g hg e => by
    subst e
    obtain ⟨es, clock, hb2, _⟩ := hm
    rcases hr.2 with ⟨rfl, _⟩ | ⟨g', cap, cur, rfl, _, hh, _⟩
    · simp [Value.ownBlock] at hg
    · have : g' = g := by simpa [Value.ownBlock] using hg
      subst this
      rw [hh] at hb2
      cases hb2
  refine ⟨w', r1, hback w' (aHad m (q + 1) (upd F n b)) (hx.mono (fun x _ e => by subst e; exact k1 _ h1)) ⟨.inl (k1 _ h1), _, _, r2, ⟨_, rfl, ?_⟩, fun i c hi => ?_⟩⟩
  · have := List.length_filter_le (fun p : Lit × DataW Unit => !p.1.sameKey (.int .i64 (n : Int))) E
    rw [length_insert]
    omega
  · unfold upd at hi
    split at hi
    · rename_i e
      subst e
      injection hi with hi
      subst hi
      exact ⟨v, y, hy, fun z => atKey_put_same ⟨_, rfl⟩ (by trivial) _ _, row_ext h4 hx (hmb h4), hb, fun g hg => .inl (k2 g (h5 g hg))⟩
    · rename_i hne
      obtain ⟨u, z, c1, c2, c3, c4, c5⟩ := hF i c hi
      exact ⟨u, z, c1, fun t => by rw [atKey_put_other (by intro e2; injection e2 with _ e3; omega)]; exact c2 t, row_ext c3 hx (hmb c3), c4, fun g hg => .inl (k1 g (c5 g hg))⟩
end
end Go.Proofs.YtoikjgcggmemaaaGreatDoor

/- The argument of WalSure opened: a list of operations. -/
namespace Go.Proofs.YtoikjgcggmemaaaGreatDoor
open Go.ChangeShapes Go.WideShapes Go.ChangeAt Go.RowKit Go.Deep
set_option linter.unusedVariables false

/-- an operation of a script: what it does, its bytes, its number, how much is kept -/
structure OpW where
  op : Int
  v : Value
  b : List UInt8
  n : Int
  k : Int
def OpW.cells (x : OpW) : Array Value := #[.int .i64 x.op, x.v, .int .i64 x.n, .int .i64 x.k]
def OpW.ok (x : OpW) (w : World) : Prop := Bs w x.v x.b ∧ -9223372036854775808 ≤ x.n ∧ x.n ≤ 9223372036854775807
/-- a slice of operations, read -/
def OpsW (w : World) (v : Value) (L : List OpW) : Prop := ∃ (A : Option Addr) (cap : Nat), v = .slice A L.length cap ∧ L.length ≤ 1048576 ∧ (0 < L.length → ∃ b off, A = some ⟨b, off, none⟩ ∧ b < w.heap.size ∧
  ∀ i x, L[i]? = some x → x.ok w ∧ ∀ j u, x.cells[j]? = some u → w.cell? ⟨b, off + i * 4 + j, none⟩ = some u)
section
variable {H : Type} {enc : TypeId × Value → H} {P : Program} {w : World} {base : Nat} {held : Bool} {spare : Nat → Bool}
theorem bulk_mem' {l : List (DataW H)} {y : DataW H} (hy : y ∈ l) : Rows.uptoBulk y ≤ Rows.uptoBulkAll l := by
  induction l with
  | nil => cases hy
  | cons z r ih =>
    simp only [Rows.uptoBulkAll]
    rcases List.mem_cons.1 hy with e | e
    · subst e; omega
    · have := ih e; omega
theorem open_opsW {r : Reach} {b0 : Nat} {t e eb : TypeId} {f0 f1 f2 f3 : Field} {v : Value} {d : DataW H} {p : List MemPlace} (ht : P.underlying t = some (.slice e)) (he : P.underlying e = some (.struct #[f0, f1, f2, f3]))
    (hC : P.cellsOf e = 4) (h0 : f0.offset = 0 ∧ P.cellsOf f0.type = 1 ∧ P.underlying f0.type = some (.int .i64)) (h1 : f1.offset = 1 ∧ P.cellsOf f1.type = 1 ∧ P.underlying f1.type = some (.slice eb))
    (h2 : f2.offset = 2 ∧ P.cellsOf f2.type = 1 ∧ P.underlying f2.type = some (.int .i64)) (h3 : f3.offset = 3 ∧ P.cellsOf f3.type = 1 ∧ P.underlying f3.type = some (.int .i64))
    (hb8 : P.underlying eb = some (.int .u8)) (hCb : P.cellsOf eb = 1)
    (hv : Value.okWide P w r b0 t v) (h : DataW.Trod enc P w base spare held t v d p) (hB : Rows.uptoBulk d ≤ 1048576) : ∃ L, OpsW w v L := by
  obtain ⟨A, len, cap, rfl⟩ := okWide_slice ht hv
  obtain ⟨fuel, hf⟩ := h
  rcases open_slice ht hf with ⟨q2, q3⟩ | ⟨a, len', cap', m, n, D, Pl, hcs, hb, hl, hm, hmm, hx, hi⟩
  · simp [Value.cells] at q2
    obtain ⟨rfl, rfl, rfl⟩ := q2
    exact ⟨[], none, 0, rfl, by simp, fun h => by simp at h⟩
  · simp [Value.cells] at hcs
    obtain ⟨rfl, rfl, rfl⟩ := hcs
    have hlm : len ≤ m := by rw [hmm]; split <;> omega
    have hall : Rows.uptoBulkAll ((List.range len).map D) + 1 ≤ Rows.uptoBulk d := by
      simp only [Prod.mk.injEq] at hx
      rw [hx.1, ← bulk_slice]; omega
    have hln : len ≤ 1048576 := by
      have h1 := bulk_len ((List.range len).map D)
      rw [List.length_map, List.length_range] at h1
      omega
    have hat : ∀ i, i < len → Rows.uptoBulk (D i) ≤ 1048576 := fun i hil => by
      have := bulk_mem' (l := (List.range len).map D) (y := D i) (List.mem_map.2 ⟨i, by simpa using hil, rfl⟩)
      omega
    obtain ⟨L, hLl, hL⟩ := list_choose (P := fun i (x : OpW) => x.ok w ∧ ∀ j u, x.cells[j]? = some u → w.cell? ((a.add (i * 4)).add j) = some u) len (fun i hil => by
      obtain ⟨cs', hc, htr⟩ := hi i (by omega)
      have hbd := hat i hil
      rw [hC] at hc
      obtain ⟨_, hcl, hcat⟩ := World.cells?_some hc
      obtain ⟨xs, n', _, hxx, _, hlen, hg⟩ := DataW.trod_struct he htr
      match cs', hcl, xs, hlen with
      | [c0, c1, c2, c3], _, [y0, y1, y2, y3], _ =>
        have t0 := hg 0 f0 rfl
        have t1 := hg 1 f1 rfl
        have t2 := hg 2 f2 rfl
        have t3 := hg 3 f3 rfl
        rw [h0.1, h0.2.1] at t0
        rw [h1.1, h1.2.1] at t1
        rw [h2.1, h2.2.1] at t2
        rw [h3.1, h3.2.1] at t3
        have hD : D i = .agg [y0.1, y1.1, y2.1, y3.1] := congrArg Prod.fst hxx
        rw [hD] at hbd
        simp only [Rows.uptoBulk, Rows.uptoBulkAll] at hbd
        obtain ⟨x0, e0, _, _⟩ := DataW.trod_int h0.2.2 t0
        obtain ⟨x2, e2, _, w2⟩ := DataW.trod_int h2.2.2 t2
        obtain ⟨x3, e3, _, w3⟩ := DataW.trod_int h3.2.2 t3
        simp at e0 e2 e3
        subst e0 e2 e3
        obtain ⟨b, hbs, hbl⟩ := bs_upto (c := c1) h1.2.2 hb8 hCb (by simpa using t1) (by omega)
        have r2 : -9223372036854775808 ≤ x2 ∧ x2 ≤ 9223372036854775807 := by simpa [Lit.wf, IntKind.min, IntKind.max, IntKind.signed, IntKind.bits] using w2
        refine ⟨⟨x0, c1, b, x2, x3⟩, ⟨hbs, r2.1, r2.2⟩, fun j u hu => ?_⟩
        simp only [OpW.cells] at hu
        have hj : j < 4 := by
          rcases Nat.lt_or_ge j 4 with h | h
          · exact h
          · rw [Array.getElem?_eq_none (by simpa using h)] at hu; cases hu
        rw [hcat j hj]
        simpa using hu)
    refine ⟨L, some a, cap, by rw [hLl], by omega, fun hn => ?_⟩
    have z := (hL 0 _ (List.getElem?_eq_getElem hn)).2 0 _ rfl
    have za : a = ⟨a.block, a.off, none⟩ := by
      have := cell_spot z
      simp [Addr.add] at this
      exact this
    have hblt := World.block_lt_of_cell? w _ z
    rw [block_of_add, block_of_add] at hblt
    refine ⟨a.block, a.off, by rw [← za], hblt, fun i x hx => ⟨(hL i x hx).1, fun j u hu => ?_⟩⟩
    have := (hL i x hx).2 j u hu
    rw [za] at this
    rw [addr_add, addr_add] at this
    exact this
end
end Go.Proofs.YtoikjgcggmemaaaGreatDoor

/- What an operation of WalSure's script leaves: a log whose records are told by a map. -/
namespace Go.Proofs.YtoikjgcggmemaaaGreatDoor
open Go.RowKit Go.Deep Go.Maps
set_option linter.unusedVariables false

/-- behind q operations -/
structure Ws (q : Nat) (F : Nat → Option (List UInt8)) (T : List Sg) (s : Sg) (k : Nat) (d : Dk) : Prop where
  seg : Segs T s (2 * q + 1)
  dsk : OnDisk T s k d
  kept : Kept F T s
def WsSt (W w : World) (pl dp m q : Nat) (X : List Asn) : Prop :=
  ∃ (T : List Sg) (s : Sg) (k : Nat) (d : Dk) (F : Nat → Option (List UInt8)), Ws q F T s k d ∧ St W w (aLgs pl dp (T ++ [s]) (sureOf s k) :: aDisk dp d :: aHad m q F :: X)
section
variable {W w : World} {pl dp m q k : Nat} {X : List Asn} {T : List Sg} {s : Sg} {d : Dk} {F : Nat → Option (List UInt8)} {u : Value} {b : List UInt8}
theorem aHad.up (h : St W w (aHad m q F :: X)) : St W w (aHad m (q + 1) F :: X) := h.conv fun own ⟨h1, n, D, hm, ⟨E, e1, e2⟩, hF⟩ => ⟨h1, n, D, hm, ⟨E, e1, by omega⟩, hF⟩
theorem ws_shut {T' : List Sg} {s' : Sg} {k' : Nat} {d' : Dk} (h1 : Segs T' s' (2 * (q + 1) + 1)) (h2 : OnDisk T' s' k' d') (h3 : Kept F T' s') (h : St W w (aLgs pl dp (T' ++ [s']) (sureOf s' k') :: aDisk dp d' :: aHad m q F :: X)) : WsSt W w pl dp m (q + 1) X :=
  ⟨T', s', k', d', F, ⟨h1, h2, h3⟩, (aHad.up h.rot3).rot3.rot3⟩
theorem Ws.same (h : Ws q F T s k d) (hs : St W w (aLgs pl dp (T ++ [s]) (sureOf s k) :: aDisk dp d :: aHad m q F :: X)) : WsSt W w pl dp m (q + 1) X :=
  ws_shut (h.seg.up (by omega)) h.dsk h.kept hs
theorem Grown.kept {T1 : List Sg} {s1 : Sg} {k1 : Nat} (h : Grown T s k T1 s1 k1) (hK : Kept F T s) : Kept F T1 s1 := by
  rcases h with ⟨rfl, rfl, _⟩ | ⟨rfl, rfl, _⟩ | ⟨rfl, rfl, _⟩
  · exact hK
  · exact hK
  · exact hK.roll
theorem law_sync (hT : TabW W) (h : Ws q F T s k d) (hq : 2 * q + 10 ≤ 1099511627776) (hs : St W w (aLgs pl dp (T ++ [s]) (sureOf s k) :: aDisk dp d :: aHad m q F :: X)) :
    Calls Tryz.prog 9 #[.pointer (some ⟨pl, 0, none⟩)] w fun e w' => e = .returned (.int .i64 0) ∧ WsSt W w' pl dp m (q + 1) X := by
  refine (Lsync_m hT h.seg (by omega) h.dsk hs).mono ?_
  rintro e w' ⟨d', rfl, h2, _, h3⟩
  exact ⟨rfl, ws_shut (h.seg.up (by omega)) h2 h.kept h3⟩
theorem law_roll (hT : TabW W) (h : Ws q F T s k d) (hq : 2 * q + 10 ≤ 1099511627776) (hs : St W w (aLgs pl dp (T ++ [s]) (sureOf s k) :: aDisk dp d :: aHad m q F :: X)) :
    Calls Tryz.prog 10 #[.pointer (some ⟨pl, 0, none⟩)] w fun e w' => ∃ z, e = .returned (.int .i64 z) ∧ WsSt W w' pl dp m (q + 1) X := by
  refine (Lroll_m hT h.seg (by omega) h.dsk hs).mono ?_
  rintro e w' ⟨z, d', rfl, _, ⟨_, h2, h3⟩ | ⟨_, h2, h3⟩⟩
  · exact ⟨z, rfl, ws_shut (h.seg.up (by omega)) h2 h.kept h3⟩
  · have e1 : s.last = sureOf s.after 0 := by unfold sureOf Sg.last Sg.after; simp
    rw [e1] at h3
    exact ⟨z, rfl, ws_shut (h.seg.roll.up (by omega)) h2 h.kept.roll h3⟩
theorem sure_le (h : OnDisk T s k d) : sureOf s k ≤ s.last := by
  have := h.kl
  unfold sureOf Sg.last; omega
theorem Kept.front : ∀ {T0 T1 : List Sg} {N : Nat}, Segs (T0 ++ T1) s N → Kept F (T0 ++ T1) s → Kept F T1 s
  | [], _, _, _, h => h
  | t :: T0, T1, N, hS, h => Kept.front (T0 := T0) hS.tail (h.prune hS)
theorem law_prune (hT : TabW W) (h : Ws q F T s k d) (hq : 2 * q + 10 ≤ 1099511627776) {upto : Int} (hup : upto ≤ sureOf s k) (hs : St W w (aLgs pl dp (T ++ [s]) (sureOf s k) :: aDisk dp d :: aHad m q F :: X)) :
    Calls Tryz.prog 11 #[.pointer (some ⟨pl, 0, none⟩), .int .i64 upto] w fun e w' => e = .returned (.int .i64 0) ∧ WsSt W w' pl dp m (q + 1) X := by
  refine (Lprune_m hT h.seg (by omega) h.dsk (Int.le_trans hup (sure_le h.dsk)) hs).mono ?_
  rintro e w' ⟨T0, T1, d', rfl, rfl, h2, _, h3⟩
  exact ⟨rfl, ws_shut ((Segs.front h.seg).up (by omega)) h2 (Kept.front h.seg h.kept) h3⟩
theorem law_append (hT : TabW W) (h : Ws q F T s k d) (hq : 2 * q + 10 ≤ 1099511627776) (hu : Bs W u b) (hs : St W w (aLgs pl dp (T ++ [s]) (sureOf s k) :: aDisk dp d :: aHad m q F :: X)) :
    Calls Tryz.prog 7 #[.pointer (some ⟨pl, 0, none⟩), u] w fun e w' => ∃ y z, e = .returned (.tuple #[.int .i64 y, .int .i64 z]) ∧ (z ≠ 0 → WsSt W w' pl dp m (q + 1) X) ∧
      (z = 0 → ∃ (n : Nat) (T' : List Sg) (s' : Sg) (k' : Nat) (d' : Dk), y = (n : Int) ∧ n ≤ 9007199254740992 ∧ Ws (q + 1) (upd F n b) T' s' k' d' ∧ St W w' (aLgs pl dp (T' ++ [s']) (sureOf s' k') :: aDisk dp d' :: aHad m q F :: X)) := by
  have key : Calls Tryz.prog 7 #[.pointer (some ⟨pl, 0, none⟩), u] w (AppPost W pl dp T s k b d.room (aHad m q F :: X)) := by
    by_cases hb : b.length ≤ 524288
    · exact Lappend_m hT h.seg (by omega) h.dsk hu hb hs
    · exact Lappend_no hu hb h.dsk hs
  refine key.mono ?_
  rintro e w' ⟨T1, s1, k1, z, d', hg, _, ⟨hz, rfl, h2, h3⟩ | ⟨rfl, rfl, hb, h2, h3⟩⟩
  · refine ⟨_, z, rfl, fun _ => ws_shut ((hg.segs h.seg).up (by omega)) h2 (hg.kept h.kept) h3, fun e => absurd e hz⟩
  · have hS1 := hg.segs h.seg
    have hsm := (hS1.one s1 (by simp)).2
    refine ⟨_, 0, rfl, fun e => absurd rfl e, fun _ => ⟨s1.first + s1.L.length, T1, s1.put b, k1, d', ?_, by omega, ⟨(hS1.append hb).up (by omega), h2, ?_⟩, h3⟩⟩
    · unfold Sg.last Sg.put; simp; omega
    · exact (hg.kept h.kept).append hS1 (by unfold upd; rw [if_pos rfl]) (fun n hn => by unfold upd; rw [if_neg hn])
/-- the log that is begun on an empty disk -/
def sg1 : Sg := ⟨1, 1, []⟩
theorem segs1 : Segs [] sg1 1 := by
  refine ⟨List.pairwise_singleton _ _, fun i a b ha hb => ?_, fun a ha => ?_, fun a ha b hb => ?_⟩
  · simp at hb
  · simp at ha; subst ha; simp [sg1]
  · simp at ha; subst ha; simp [sg1] at hb
theorem file11 : file1 nLog = fileN 1 := by
  unfold file1 fileN
  rw [itoa_nat, Lib.decDigits, dif_pos (by omega)]
  rfl
theorem disk1 (r : Int) (hr : 6 ≤ r ∧ r ≤ 4194304) : OnDisk [] sg1 0 (dF nLog (headF 1) 6 r) := by
  have hl := head1_len
  have e : lastFl sg1 0 = ⟨file1 nLog, headF 1, 6⟩ := by
    rw [file11]
    simp [lastFl, sg1, segB, bodyR, hl]
  refine ⟨⟨by simp [dF], ?_, ?_, by simp [dF]; omega, by simp [dF]⟩, rfl, by simp, fun f => ?_⟩
  · intro f hf
    simp [dF] at hf
    subst hf
    simp [hl]
  · simp [dF, usedF, hl]; omega
  · rw [e]
    simp [dF]
theorem fresh_s {p : Nat} (h : St W w (aLg p dp (lg0 nLog 64 0) :: X)) : St W w (aLgs p dp ([] ++ [sg1]) (sureOf sg1 0) :: X) := by
  obtain ⟨s, c, vL, _, h1⟩ := aLg.open_ h
  have h2 : St W w (aBlk p 54 (logC dp 0 (.slice (some ⟨s, 0, none⟩) 1 c)) :: aRow 67 4 (.slice (some ⟨s, 0, none⟩) 1 c) 1 [.int .i64 1, .int .i64 1, vL, .int .i64 6] :: aPl vL [] :: X) := h1
  have h3 := (aOff.of_row h2.swap).swap
  refine aLgs.shut (G := [(sg1, vL)]) (g := s) (off := 0) (c := c) rfl ?_
  have e : segsV [(sg1, vL)] = [.int .i64 1, .int .i64 1, vL, .int .i64 6] := by
    simp [segsV, segV, sg1, segB, bodyR, head1_len]
  show St W w (aBlk p 54 (logC dp (sureOf sg1 0) (.slice (some ⟨s, 0, none⟩) 1 c)) :: aOff 67 4 s 0 1 c (segsV [(sg1, vL)]) :: aPl vL [] :: X)
  rw [e]
  exact h3
theorem kept1 : Kept F [] sg1 := fun i b h => by simp [recs, sg1] at h
theorem first_cut (j : Nat) : first0 T { s with L := s.L.take j } = first0 T s := by
  cases T <;> simp [first0]
end
end Go.Proofs.YtoikjgcggmemaaaGreatDoor

/- The walk of WalSure. -/
namespace Go.Proofs.YtoikjgcggmemaaaGreatDoor
open Go.RowKit Go.Deep Go.Maps
set_option linter.unusedVariables false

section
variable {W w : World}
set_option maxRecDepth 20000 in
set_option maxHeartbeats 16000000 in
theorem walSure_c {v : Value} {keep : Int} (hT : TabW W) {L : List OpW} (hL : OpsW W v L) (hk : -9223372036854775808 ≤ keep ∧ keep ≤ 9223372036854775807) :
    Calls Tryz.prog 3 #[v, .int .i64 keep] W fun e w' => e = .returned (.bool true) ∧ B W w' := by
  have hmm := @run_makeMap Tryz.prog
  have HNW := Lib.hid (show Calls Tryz.prog 4 #[.int .i64 16384] W fun e w' => ∃ p, e = .returned (.tuple #[.pointer (some ⟨p, 0, none⟩), .int .i64 0]) ∧ St W w' [aDisk p (dZr 16384)] from new_yes (k := 16384) (St.nil W) (by omega))
  have HO := Lib.hid (fun (w' : World) (dp : Nat) (X : List Asn) (h : St W w' (aDisk dp (dZr 16384) :: X)) => show Calls Tryz.prog 5 #[.pointer (some ⟨dp, 0, none⟩), .string ⟨#[108, 111, 103]⟩, .int .i64 64] w' fun e w'' => ∃ p, e = .returned (.tuple #[.pointer (some ⟨p, 0, none⟩), .int .i64 0]) ∧ St W w'' (aLgs p dp ([] ++ [sg1]) (sureOf sg1 0) :: aDisk dp (dF nLog (headF 1) 6 16384) :: X) from
    (open0_r (n := nLog) (most := 64) (r := 16384) (by omega) h (mayLog 64 (by omega)) (by simp [nLog])).mono fun e w'' ⟨p, h1, h2⟩ => ⟨p, h1, fresh_s h2⟩)
  have HB := Lib.hid (fun w' => begun_c w')
  obtain ⟨A, cap, rfl, hl20, hr⟩ := hL
  have HR := Lib.hid hr
  have HTT := Lib.hid hT
  have HKP := Lib.hid hk
  clear hr hT
  obtain ⟨l, hl⟩ : ∃ l, L.length = l := ⟨_, rfl⟩
  have HL := Lib.hid hl
  rw [hl] at hl20 ⊢
  clear hl
  go_enter Tryz.func3, Tryz.ntmps3
  go_wp2_with (first
    | (go_at_call 4; (with_reducible refine HNW.out.mono ?_); rintro e w1 ⟨dp, rfl, hS⟩; have H1 := Lib.hid hS; clear hS)
    | (go_at_call 5; (with_reducible refine (HO.out _ _ _ H1.out).mono ?_); rintro e w2 ⟨pl, rfl, hS⟩; have H2 := Lib.hid hS; clear hS)
    | (go_at_call 6; (with_reducible refine (HB.out _).mono ?_); rintro e w3 ⟨rfl, hb⟩; have H3 := Lib.hid (H2.out.later hb); clear hb))
  have h5 := (aHad.new H3.out).rot3.rot3
  have H6 := Lib.hid (show WsSt W (w3.alloc (.map #[] 0)) pl dp w3.heap.size 0 [] from ⟨[], sg1, 0, _, _, ⟨segs1, disk1 16384 (by omega), kept1⟩, h5⟩)
  clear h5
  generalize w3.heap.size = m at *
  generalize w3.alloc (.map #[] 0) = w4 at *
  clear H1 H2 H3 HNW HO
  go_loopw [45] (fun i wr => ∃ q : Nat, q ≤ l ∧ i = .int .i64 (q : Int) ∧ Hid (WsSt W wr pl dp m q [])) (fun i _ => l - (intOf i).toNat)
  case atStart => exact ⟨0, by omega, rfl, H6.out⟩
  case round =>
    obtain ⟨q, hq, rfl, HS⟩ := hrel
    by_cases hql : q < l
    · obtain ⟨x, hx⟩ : ∃ x, L[q]? = some x := ⟨_, List.getElem?_eq_getElem (by have := HL.out; omega)⟩
      obtain ⟨gb, go, rfl, _, hat⟩ := HR.out (by have := HL.out; omega)
      obtain ⟨⟨hub, hn1, hn2⟩, hcl⟩ := hat q x hx
      obtain ⟨T, s, k, d, F, hw, hst⟩ := HS.out
      have k0 := hst.b.cell (hcl 0 (.int .i64 x.op) rfl)
      have k1 := hst.b.cell (hcl 1 x.v rfl)
      have k2 := hst.b.cell (hcl 2 (.int .i64 x.n) rfl)
      have k3 := hst.b.cell (hcl 3 (.int .i64 x.k) rfl)
      obtain ⟨op, xv, b, n, kk⟩ := x
      simp only [Nat.add_zero] at k0 k1 k2 k3 hn1 hn2 hub
      obtain ⟨Av, cv, rfl⟩ := hub.rd.slice
      have hqi : (q : Int) < (l : Int) := by omega
      have hq10 : 2 * q + 10 ≤ 1099511627776 := by omega
      have h1 := (aBlk.new hst 34 #[.int .i64 op, .slice Av b.length cv, .int .i64 n, .int .i64 kk]).rot4.rot4.rot4
      have H1 := Lib.hid h1
      have HW := Lib.hid hw
      have HU := Lib.hid hub
      have HQS := Lib.hid (hw.same h1)
      have HKB := Lib.hid (fun (w' : World) (q' : Nat) (h' : WsSt W w' pl dp m q' [aBlk wr.heap.size 34 #[.int .i64 op, .slice Av b.length cv, .int .i64 n, .int .i64 kk]]) => show w'.cell? ⟨wr.heap.size, 1, none⟩ = some (.slice Av b.length cv) ∧ w'.cell? ⟨wr.heap.size, 2, none⟩ = some (.int .i64 n) ∧ B W w' ∧ WsSt W w' pl dp m q' [] from by
        obtain ⟨T, s, k, d, F, h2, h3⟩ := h'
        have hb := aBlk.get h3.rot4
        have c1 := hb.cell 1
        have c2 := hb.cell 2
        simp at c1 c2
        exact ⟨c1, c2, h3.b, T, s, k, d, F, h2, h3.rot4.drop⟩)
      have HSY := Lib.hid (law_sync HTT.out hw hq10 h1)
      have HRO := Lib.hid (law_roll HTT.out hw hq10 h1)
      have HAP := Lib.hid (law_append HTT.out hw hq10 hub h1)
      have HPR := Lib.hid (fun (w' : World) (u : Int) (hu : u ≤ sureOf s k) (h' : St W w' (aLgs pl dp (T ++ [s]) (sureOf s k) :: aDisk dp d :: aHad m q F :: [aBlk wr.heap.size 34 #[.int .i64 op, .slice Av b.length cv, .int .i64 n, .int .i64 kk]])) => law_prune HTT.out hw hq10 hu h')
      clear h1 hw hub hst hat hcl hx H6
      by_cases h0 : op = 0
      · subst h0
        go_wp2_with (first
          | (go_at_call 7; (with_reducible refine HAP.out.mono ?_); rintro e w5 ⟨y, z, rfl, hP⟩; have HP := Lib.hid hP; have hkb : w5.cell? ⟨wr.heap.size, 1, none⟩ = some (.slice Av b.length cv) ∧ B W w5 := (by
              by_cases hz : z = 0
              · obtain ⟨nn, T', s', k', d', _, _, _, h3⟩ := hP.2 hz
                have hb := (aBlk.get h3.rot4).cell 1
                simp at hb
                exact ⟨hb, h3.b⟩
              · have h3 := HKB.out _ _ (hP.1 hz)
                exact ⟨h3.1, h3.2.2.1⟩); obtain ⟨kb1, hb5⟩ := hkb; have HB5 := Lib.hid hb5; clear hP hb5)
          | (go_at_call 8; (with_reducible refine (sclone_c (HU.out.later HB5.out)).mono ?_); rintro e w6 ⟨v6, rfl, r6, hb6⟩; have hz : z = 0 := (by
              have hq : (z == 0) = true := by assumption
              exact beq_iff_eq.1 hq); obtain ⟨nn, T', s', k', d', hy, hn53, hws, h3⟩ := HP.out.2 hz; subst hy; obtain ⟨w7, r7, h8⟩ := aHad.store (h3.addRow hb6 r6).rot4 (by unfold maxLen; omega) HU.out.2 hn53; have H8 := Lib.hid h8; have HWS := Lib.hid hws; clear h3 h8 hws)
          | (at_mapUpdate; refine wpList_mapUpdate_run rfl (.tmp 62) (.tmp 63) (.tmp 66) 31 rfl rfl rfl rfl r7 ?_))
        · go_roundw
          case rel => exact ⟨q + 1, by omega, by go_num, _, _, _, _, _, HWS.out, H8.out.rot3.rot3.rot4.drop⟩
          case measure => simp [intOf]; omega
        · have hz : ¬ z = 0 := by
            have hq : (z == 0) = false := by assumption
            exact beq_eq_false_iff_ne.1 hq
          go_roundw
          case rel => exact ⟨q + 1, by omega, by go_num, (HKB.out _ _ (HP.out.1 hz)).2.2.2⟩
          case measure => simp [intOf]; omega
      by_cases h1 : op = 1
      · subst h1
        go_wp2_with (first
          | (go_at_call 9; (with_reducible refine HSY.out.mono ?_); rintro e w5 ⟨rfl, h5⟩; have H5 := Lib.hid h5; clear h5))
        go_roundw
        case rel => exact ⟨q + 1, by omega, by go_num, (HKB.out _ _ H5.out).2.2.2⟩
        case measure => simp [intOf]; omega
      by_cases h2 : op = 2
      · subst h2
        go_wp2_with (first
          | (go_at_call 10; (with_reducible refine HRO.out.mono ?_); rintro e w5 ⟨z, rfl, h5⟩; have H5 := Lib.hid h5; clear h5))
        go_roundw
        case rel => exact ⟨q + 1, by omega, by go_num, (HKB.out _ _ H5.out).2.2.2⟩
        case measure => simp [intOf]; omega
      by_cases h3 : op = 3
      · subst h3
        have kn : (wr.alloc (.cells #[.int .i64 3, .slice Av b.length cv, .int .i64 n, .int .i64 kk] 34)).cell? ⟨wr.heap.size, 2, none⟩ = some (.int .i64 n) := (HKB.out _ _ HQS.out).2.1
        go_wp2_with fail
        obtain ⟨su, hsu⟩ : ∃ su, sureOf s k = su := ⟨_, rfl⟩
        rcases Int.le_total n su with hns | hns
        · have HUP := Lib.hid (show n ≤ sureOf s k by rw [hsu]; exact hns)
          rw [hsu] at H1 HPR
          go_region_held3 (fun w' => w'.cell? ⟨wr.heap.size, 2, none⟩ = some (.int .i64 n)) (first | assumption) (first
            | (go_at_call 12; (with_reducible refine (synced_s (H1.out.later (Below.refl _ _).drew)).mono ?_); rintro e w5 ⟨rfl, rfl⟩)
            | (go_at_call 11; (with_reducible refine (HPR.out _ _ (by first | omega | (simp; omega) | exact Int.min_le_right _ _) (H1.out.later (Below.refl _ _).drew)).mono ?_); rintro e w6 ⟨rfl, h5⟩; have H5 := Lib.hid h5; clear kn; have kn := (HKB.out _ _ h5).2.1; clear h5))
          all_goals
            go_wp2_with fail
            go_roundw
            case rel => exact ⟨q + 1, by omega, by go_num, (HKB.out _ _ H5.out).2.2.2⟩
            case measure => simp [intOf]; omega
        · rw [hsu] at H1 HPR
          go_region_held3 (fun w' => w'.cell? ⟨wr.heap.size, 2, none⟩ = some (.int .i64 n)) (first | assumption) (first
            | (go_at_call 12; (with_reducible refine (synced_s (H1.out.later (Below.refl _ _).drew)).mono ?_); rintro e w5 ⟨rfl, rfl⟩)
            | (go_at_call 11; (with_reducible refine (HPR.out _ _ (by first | omega | (simp; omega) | exact Int.min_le_right _ _) (H1.out.later (Below.refl _ _).drew)).mono ?_); rintro e w6 ⟨rfl, h5⟩; have H5 := Lib.hid h5; clear kn; have kn := (HKB.out _ _ h5).2.1; clear h5))
          all_goals
            go_wp2_with fail
            go_roundw
            case rel => exact ⟨q + 1, by omega, by go_num, (HKB.out _ _ H5.out).2.2.2⟩
            case measure => simp [intOf]; omega
      · go_wp2_with fail
        go_roundw
        case rel => exact ⟨q + 1, by omega, by go_num, (HKB.out _ _ HQS.out).2.2.2⟩
        case measure => simp [intOf]; omega
    · obtain rfl : q = l := by omega
      obtain ⟨T, s, k, d, F, hw, hst⟩ := HS.out
      obtain ⟨d1, d2, j, rest, c1, c2, c3, c4, c5, hR⟩ := hw.dsk.crash hw.seg keep
      have hS1 := hw.seg.cut j
      have hS0 := hw.seg
      have hkp := hw.kept.cut j
      have hfc := first_cut (T := T) (s := s) j
      have hlb : (Sg.last { s with L := s.L.take j } : Int) = (s.first : Int) + j - 1 := by
        unfold Sg.last
        simp only [List.length_take]
        rw [Nat.min_eq_left c5]
      obtain ⟨s2, hs2⟩ : ∃ s2, ({ s with L := s.L.take j } : Sg) = s2 := ⟨_, rfl⟩
      rw [hs2] at hR hS1 hkp hfc hlb
      have hN2 : 2 * q + 1 + 2 ≤ 1099511627776 := by omega
      have hcn := hS1.cnt
      have HCR := Lib.hid (fun (w' : World) (Y : List Asn) (h' : St W w' (aDisk dp d :: Y)) => show Calls Tryz.prog 15 #[.pointer (some ⟨dp, 0, none⟩), .int .i64 keep] w' fun e w'' => e = .returned (.int .i64 0) ∧ St W w'' (aDisk dp d1 :: Y) from by
        have := crash_c h' HKP.out
        rw [c1] at this
        exact this)
      have HRS := Lib.hid (fun (w' : World) (Y : List Asn) (h' : St W w' (aDisk dp d1 :: Y)) => show Calls Tryz.prog 16 #[.pointer (some ⟨dp, 0, none⟩)] w' fun e w'' => e = .returned (.int .i64 0) ∧ St W w'' (aDisk dp d2 :: Y) from by
        have := restart_c h'
        rw [c2] at this
        exact this)
      have HOP := Lib.hid (fun (w' : World) (d' : Dk) (rest' : List UInt8) (Y : List Asn) (hR' : Torn T s2 rest' d') (h' : St W w' (aDisk dp d' :: Y)) => show Calls Tryz.prog 5 #[.pointer (some ⟨dp, 0, none⟩), .string ⟨#[108, 111, 103]⟩, .int .i64 64] w' fun e w'' => ∃ (p : Nat) (d'' : Dk), e = .returned (.tuple #[.pointer (some ⟨p, 0, none⟩), .int .i64 0]) ∧ OnDisk T s2 s2.L.length d'' ∧ d''.room = d'.room ∧ St W w'' (aLgs p dp (T ++ [s2]) s2.last :: aDisk dp d'' :: Y) from open_m HTT.out hS1 hN2 hR' h')
      have HL1 := Lib.hid (fun (w' : World) (Y : List Asn) (h' : St W w' (aLgs pl dp (T ++ [s]) (sureOf s k) :: Y)) => last_s hS0 (by omega) h')
      have HL2 := Lib.hid (fun (w' : World) (p : Nat) (Y : List Asn) (h' : St W w' (aLgs p dp (T ++ [s2]) s2.last :: Y)) => last_s hS1 (by omega) h')
      have HF1 := Lib.hid (fun (w' : World) (Y : List Asn) (h' : St W w' (aLgs pl dp (T ++ [s]) (sureOf s k) :: Y)) => first_s h')
      have HF2 := Lib.hid (fun (w' : World) (p : Nat) (Y : List Asn) (h' : St W w' (aLgs p dp (T ++ [s2]) s2.last :: Y)) => first_s h')
      have HSY := Lib.hid (fun (w' : World) (Y : List Asn) (h' : St W w' (aLgs pl dp (T ++ [s]) (sureOf s k) :: Y)) => synced_s h')
      have HAL := Lib.hid (fun (w' : World) (p : Nat) (Y : List Asn) (h' : St W w' (aLgs p dp (T ++ [s2]) s2.last :: Y)) => LAll_m hS1 (by omega) h')
      have HLK := Lib.hid (fun (w0 : World) (Y : List Asn) (h0 : St W w0 (aHad m q F :: Y)) (w' : World) (i : Nat) (b : List UInt8) (hb : B w0 w') (hi : (recs T s2)[i]? = some b) => show ∃ v, (Instr.lookup 31 (.map (some m)) (.int .i64 ((first0 T s2 : Int) + (i : Int))) false).run Tryz.prog w' = .ok v w' ∧ Bs w' v b from by
        have hil := lt_of hi
        have := aHad.look (h0.later hb) (i := first0 T s2 + i) (by omega) (hkp i b hi)
        rwa [Int.natCast_add] at this)
      have HTN := Lib.hid hR
      have H0 := Lib.hid hst
      have hsl : ¬ s2.last < sureOf s k := by rw [hlb]; unfold sureOf; omega
      have hsl2 : ¬ s.last < s2.last := by rw [hlb]; unfold Sg.last; omega
      rw [hfc] at HF2 HLK HAL
      generalize s2.last = lb at *
      generalize s.last = la at *
      generalize sureOf s k = su at *
      generalize (first0 T s : Int) = fi at *
      clear hst hw hS0 hS1 hkp hfc hlb hs2 hcn c1 c2 c3 c4 c5 hR HS H6 HR
      go_wp2_with (first
        | (go_at_call_of 12 pl; (with_reducible refine (HSY.out _ _ H0.out).mono ?_); rintro e w5 ⟨rfl, rfl⟩)
        | (go_at_call_of 13 pl; (with_reducible refine (HL1.out _ _ H0.out).mono ?_); rintro e w6 ⟨rfl, hb⟩; have H1 := Lib.hid (H0.out.later hb); clear hb)
        | (go_at_call_of 14 pl; (with_reducible refine (HF1.out _ _ H1.out).mono ?_); rintro e w7 ⟨rfl, rfl⟩)
        | (go_at_call 15; (with_reducible refine (HCR.out _ _ H1.out.swap).mono ?_); rintro e w8 ⟨rfl, h'⟩; have H2 := Lib.hid h'; clear h')
        | (go_at_call 16; (with_reducible refine (HRS.out _ _ H2.out).mono ?_); rintro e w9 ⟨rfl, h'⟩; have H3 := Lib.hid h'; clear h' H2)
        | (go_at_call 5; (with_reducible refine (HOP.out _ _ _ _ HTN.out H3.out).mono ?_); rintro e w10 ⟨pm, d3, rfl, hD3, _, h'⟩; have H4 := Lib.hid h'; have HT3 := Lib.hid (OnDisk.torn hD3); clear h' hD3)
        | (go_at_call_of 13 pm; (with_reducible refine (HL2.out _ _ _ H4.out).mono ?_); rintro e w11 ⟨rfl, hb⟩; have H4 := Lib.hid (H4.out.later hb); clear hb)
        | (go_at_call_of 14 pm; (with_reducible refine (HF2.out _ _ _ H4.out).mono ?_); rintro e w12 ⟨rfl, rfl⟩)
        | (go_at_call 18; (with_reducible refine (HAL.out _ _ _ H4.out).mono ?_); rintro e w13 ⟨b1, b2, A1, A2, c1, c2, rfl, h', hI⟩; have H4 := Lib.hid h'; have HI := Lib.hid hI; clear h' hI)
        | (go_at_call 17; (with_reducible refine (kept_yes HI.out (fun w' i b hb hi => HLK.out _ _ H4.out.rot4 w' i b hb hi)).mono ?_); rintro e w14 ⟨rfl, hb⟩; have H4 := Lib.hid (H4.out.later hb); clear hb)
        | (go_at_call 5; (with_reducible refine (HOP.out _ _ _ _ HT3.out H4.out.swap).mono ?_); rintro e w15 ⟨pa, d4, rfl, _, _, h'⟩; have H8 := Lib.hid h'; clear h')
        | (go_at_call_of 13 pa; (with_reducible refine (HL2.out _ _ _ H8.out).mono ?_); rintro e w16 ⟨rfl, hb⟩; have H8 := Lib.hid (H8.out.later hb); clear hb)
        | (go_at_call_of 13 pm; (with_reducible refine (HL2.out _ _ _ H8.out.rot3).mono ?_); rintro e w17 ⟨rfl, hb⟩; have H8 := Lib.hid (H8.out.later hb); clear hb)
        | (go_at_call_of 14 pa; (with_reducible refine (HF2.out _ _ _ H8.out).mono ?_); rintro e w18 ⟨rfl, rfl⟩)
        | (go_at_call 18; (with_reducible refine (HAL.out _ _ _ H8.out).mono ?_); rintro e w19 ⟨b3, b4, A3, A4, c3, c4, rfl, h', hI⟩; have H8 := Lib.hid h'; have HI2 := Lib.hid hI; clear h' hI)
        | (go_at_call 17; (with_reducible refine (kept_yes HI2.out (fun w' i b hb hi => HLK.out _ _ H8.out.rot5 w' i b hb hi)).mono ?_); rintro e w20 ⟨rfl, hb⟩; have H8 := Lib.hid (H8.out.later hb); clear hb))
      go_ret
      exact ⟨rfl, H8.out.b⟩
end
end Go.Proofs.YtoikjgcggmemaaaGreatDoor
