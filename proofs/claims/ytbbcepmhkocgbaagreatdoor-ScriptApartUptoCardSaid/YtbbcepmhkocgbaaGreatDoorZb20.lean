/- Lemmas and contracts, part 20. -/
import Derived.Test.YtbbcepmhkocgbaaGreatDoorZb19
import Derived.Deep.Light
import Derived.Deep.QuietTactic
import Derived.BigQuiet
import Derived.Deep.RegionLaw
/- script.digit, script.ParseHex. -/
namespace Go.Proofs.YtbbcepmhkocgbaaGreatDoor
open Go.RowKit Go.Deep
set_option linter.unusedVariables false

def digF (c : Nat) : Nat := if 48 ≤ c ∧ c ≤ 57 then c - 48 else if 97 ≤ c ∧ c ≤ 102 then c - 87 else 16
theorem digit_c {w : World} (c : Nat) (hc : c < 256) : Calls Tryz.prog 22 #[.int .u8 (c : Int)] w fun e w' => e = .returned (.int .u8 (digF c : Int)) ∧ w = w' := by
  have hw : 48 ≤ c → c ≤ 57 → IntKind.u8.wrap ((c : Int) - 48) = (c : Int) - 48 := fun _ _ => IntWalk.u8_in _ ⟨by omega, by omega⟩
  have hv : 97 ≤ c → c ≤ 102 → IntKind.u8.wrap ((c : Int) - 97) = (c : Int) - 97 := fun _ _ => IntWalk.u8_in _ ⟨by omega, by omega⟩
  have hz : 97 ≤ c → c ≤ 102 → IntKind.u8.wrap ((c : Int) - 97 + 10) = (c : Int) - 97 + 10 := fun _ _ => IntWalk.u8_in _ ⟨by omega, by omega⟩
  have hcase : (48 ≤ c ∧ c ≤ 57) ∨ (97 ≤ c ∧ c ≤ 102) ∨ c < 48 ∨ (57 < c ∧ c < 97) ∨ 102 < c := by omega
  rcases hcase with ⟨h1, h2⟩ | ⟨h1, h2⟩ | h1 | ⟨h1, h2⟩ | h1
  · have E := Lib.hid (show (digF c : Int) = (c : Int) - 48 from by unfold digF; rw [if_pos ⟨h1, h2⟩]; omega)
    have k1 := hw h1 h2
    have g1 : (48 : Int) ≤ c := by omega
    have g2 : (c : Int) ≤ 57 := by omega
    clear hw hv hz h1 h2 hc
    go_enter Tryz.func22, Tryz.ntmps22
    go_wp2
    go_ret
    exact ⟨by rw [E.out]; rfl, rfl⟩
  · have E := Lib.hid (show (digF c : Int) = (c : Int) - 97 + 10 from by unfold digF; rw [if_neg (by omega), if_pos ⟨h1, h2⟩]; omega)
    have k1 := hv h1 h2
    have k2 := hz h1 h2
    have g1 : (48 : Int) ≤ c := by omega
    have g2 : ¬ (c : Int) ≤ 57 := by omega
    have g3 : (97 : Int) ≤ c := by omega
    have g4 : (c : Int) ≤ 102 := by omega
    clear hw hv hz h1 h2 hc
    go_enter Tryz.func22, Tryz.ntmps22
    go_wp2
    go_ret
    exact ⟨by rw [E.out]; rfl, rfl⟩
  · have E := Lib.hid (show (digF c : Int) = 16 from by unfold digF; rw [if_neg (by omega), if_neg (by omega)]; rfl)
    have g1 : ¬ (48 : Int) ≤ c := by omega
    have g3 : ¬ (97 : Int) ≤ c := by omega
    clear hw hv hz h1 hc
    go_enter Tryz.func22, Tryz.ntmps22
    go_wp2
    go_ret
    exact ⟨by rw [E.out]; rfl, rfl⟩
  · have E := Lib.hid (show (digF c : Int) = 16 from by unfold digF; rw [if_neg (by omega), if_neg (by omega)]; rfl)
    have g1 : (48 : Int) ≤ c := by omega
    have g2 : ¬ (c : Int) ≤ 57 := by omega
    have g3 : ¬ (97 : Int) ≤ c := by omega
    clear hw hv hz h1 h2 hc
    go_enter Tryz.func22, Tryz.ntmps22
    go_wp2
    go_ret
    exact ⟨by rw [E.out]; rfl, rfl⟩
  · have E := Lib.hid (show (digF c : Int) = 16 from by unfold digF; rw [if_neg (by omega), if_neg (by omega)]; rfl)
    have g1 : (48 : Int) ≤ c := by omega
    have g2 : ¬ (c : Int) ≤ 57 := by omega
    have g3 : (97 : Int) ≤ c := by omega
    have g4 : ¬ (c : Int) ≤ 102 := by omega
    clear hw hv hz h1 hc
    go_enter Tryz.func22, Tryz.ntmps22
    go_wp2
    go_ret
    exact ⟨by rw [E.out]; rfl, rfl⟩
/-- pairs of digits -/
def pairsF : List UInt8 → Option (List UInt8)
  | [] => some []
  | [_] => none
  | x :: y :: r => if digF x.toNat < 16 ∧ digF y.toNat < 16 then (pairsF r).map (UInt8.ofNat (16 * digF x.toNat + digF y.toNat) :: ·) else none
def parseHexF : List UInt8 → Option (List UInt8)
  | [] => none
  | x :: r => if x = 120 then pairsF r else none
theorem digF_hexD (n : Nat) (h : n < 16) : digF (hexD n).toNat = n := by
  rw [hexD_toNat h]
  unfold digF
  split
  · rw [if_pos (by omega)]; omega
  · rw [if_neg (by omega), if_pos (by omega)]; omega
/-- what is written is read back -/
theorem parse_hex (b : List UInt8) : parseHexF (hexF b) = some b := by
  have h : ∀ b : List UInt8, pairsF (b.flatMap fun c => [hexD (c.toNat / 16), hexD (c.toNat % 16)]) = some b := by
    intro b
    induction b with
    | nil => rfl
    | cons c r ih =>
      have hc := c.toNat_lt
      simp only [List.flatMap_cons, List.cons_append, List.nil_append, pairsF, ih]
      rw [digF_hexD _ (by omega), digF_hexD _ (by omega), if_pos (by omega)]
      simp only [Option.map_some, Option.some.injEq, List.cons.injEq, and_true]
      apply UInt8.toNat_inj.1
      rw [UInt8.toNat_ofNat']
      omega
  simp [parseHexF, hexF, h]
end Go.Proofs.YtbbcepmhkocgbaaGreatDoor

/- script.ParseHex. -/
namespace Go.Proofs.YtbbcepmhkocgbaaGreatDoor
open Go.RowKit Go.Deep
set_option linter.unusedVariables false

theorem pairsF_odd : ∀ r : List UInt8, r.length % 2 = 1 → pairsF r = none
  | [], h => by simp at h
  | [_], _ => rfl
  | x :: y :: r, h => by
    simp only [List.length_cons] at h
    simp only [pairsF]
    rw [pairsF_odd r (by omega)]
    split <;> rfl
theorem bstr_at (s : List UInt8) (k : Nat) (x : UInt8) (hx : s[k]? = some x) : ∀ h : k < (bstr s).size, (bstr s)[k]'h = x := by
  intro h
  obtain ⟨h1, h2⟩ := List.getElem?_eq_some_iff.1 hx
  rw [← h2]
  rfl
set_option maxRecDepth 20000 in
set_option maxHeartbeats 4000000 in
theorem parseHex_no {w : World} (s : List UInt8) (hl : s.length ≤ 8388610) (h : s.length % 2 = 0 ∨ ∃ x r, s = x :: r ∧ r.length % 2 = 0 ∧ x ≠ 120) :
    Calls Tryz.prog 9 #[.string (bstr s)] w fun e w' => e = .returned (.tuple #[.slice none 0 0, .bool false]) ∧ B w w' := by
  have hsz := bstr_size s
  rcases h with h | ⟨x, r, hs, hr, hx⟩
  · have g1 : ((s.length : Int).tmod 2 == 0) = true := by simp [Int.tmod]; omega
    have g2 : (s.length : Int) % 2 = 0 := by omega
    clear h
    go_enter Tryz.func9, Tryz.ntmps9
    go_wp2
    go_ret2
    exact ⟨rfl, Below.refl _ _⟩
  · have h0 := bstr_at s 0 x (by rw [hs]; rfl)
    have g1 : (s.length : Int) % 2 = 1 := by rw [hs]; simp; omega
    have g2 : ((x.toNat : Int) != 120) = true := by
      simp
      intro e
      apply hx
      apply UInt8.toNat_inj.1
      have : (120 : UInt8).toNat = 120 := rfl
      omega
    have g3 : 0 < s.length := by rw [hs]; simp
    clear hs hr hx
    go_enter Tryz.func9, Tryz.ntmps9
    go_wp2
    go_ret2
    exact ⟨rfl, Below.refl _ _⟩
theorem orH (h l : Nat) (hh : h < 16) (hl : l < 16) : bits BinOp.or IntKind.u8 ((h : Int) * 16) (l : Int) = ((16 * h + l : Nat) : Int) := by
  have h' : ∀ x : Fin 16, ∀ y : Fin 16, bits BinOp.or IntKind.u8 ((x.val : Int) * 16) (y.val : Int) = ((16 * x.val + y.val : Nat) : Int) := by decide +kernel
  exact h' ⟨h, hh⟩ ⟨l, hl⟩
/-- what ParseHex gives -/
def HexPost (w : World) : Option (List UInt8) → Ending → World → Prop
  | some b, e, w' => ∃ v, e = .returned (.tuple #[v, .bool true]) ∧ St w w' [aBy v b]
  | none, e, w' => e = .returned (.tuple #[.slice none 0 0, .bool false]) ∧ B w w'
theorem pairsF_two {r : List UInt8} {q : Nat} {a b : UInt8} (ha : r[2 * q]? = some a) (hb : r[2 * q + 1]? = some b) : r.drop (2 * q) = a :: b :: r.drop (2 * (q + 1)) := by
  obtain ⟨h1, h2⟩ := List.getElem?_eq_some_iff.1 ha
  obtain ⟨h3, h4⟩ := List.getElem?_eq_some_iff.1 hb
  rw [List.drop_eq_getElem_cons h1, h2, List.drop_eq_getElem_cons h3, h4]
  rfl
set_option maxRecDepth 20000 in
set_option maxHeartbeats 4000000 in
theorem parseHex_yes {w : World} (r : List UInt8) (hl : r.length ≤ 8388608) (hr : r.length % 2 = 0) :
    Calls Tryz.prog 9 #[.string (bstr (120 :: r))] w (HexPost w (pairsF r)) := by
  have hsz := bstr_size (120 :: r)
  simp only [List.length_cons] at hsz
  have h0 := bstr_at (120 :: r) 0 120 rfl
  have HG := Lib.hid (bstr_at (120 :: r))
  generalize bstr (120 :: r) = s at *
  obtain ⟨n, hn⟩ : ∃ n, r.length + 1 = n := ⟨_, rfl⟩
  rw [hn] at hsz
  have g1 : (n : Int) % 2 = 1 := by omega
  have g3 : 0 < n := by omega
  have g4 : (n : Int) ≤ 8388609 := by omega
  have HS := Lib.hid (aBy.nil (St.nil w))
  have HN := Lib.hid hn
  have HR := Lib.hid hr
  have HDG := Lib.hid (fun w' (c : UInt8) => digit_c (w := w') c.toNat c.toNat_lt)
  clear hl hr hn
  go_enter Tryz.func9, Tryz.ntmps9
  go_wp2
  clear g1
  go_loopw [4, 5] (fun v i wr => ∃ (q k : Nat) (z : List UInt8) (A : Option Addr) (c : Nat), 2 * q < n ∧ k = 1 + 2 * q ∧ i = .int .i64 (k : Int) ∧ v = .slice A z.length c ∧ z.length ≤ q ∧ Hid (pairsF r = (pairsF (r.drop (2 * q))).map (z ++ ·)) ∧ Hid (St w wr [aBy (.slice A z.length c) z])) (fun _ i _ => n + 2 - (intOf i).toNat)
  case atStart => exact ⟨0, 1, [], none, 0, by omega, rfl, rfl, rfl, Nat.le_refl _, Lib.hid (by simp), HS.out⟩
  case round =>
    obtain ⟨q, k, z, A, c, hq, hk, rfl, rfl, hz, HZ, HS⟩ := hrel
    by_cases hlt : k < n
    · have hlt2 : k + 1 < n := by have := HR.out; have := HN.out; omega
      obtain ⟨a, ha⟩ : ∃ a, r[2 * q]? = some a := ⟨_, List.getElem?_eq_getElem (by have := HN.out; omega)⟩
      obtain ⟨b, hb⟩ : ∃ b, r[2 * q + 1]? = some b := ⟨_, List.getElem?_eq_getElem (by have := HN.out; omega)⟩
      have HP := Lib.hid (pairsF_two ha hb)
      have i1 := HG.out k a (by rw [hk, Nat.add_comm]; simpa using ha)
      have i2 := HG.out (k + 1) b (by rw [show k + 1 = (2 * q + 1) + 1 by omega]; simpa using hb)
      obtain ⟨k2, hk2⟩ : ∃ k2, k2 = k + 1 := ⟨_, rfl⟩
      rw [← hk2] at i2 hlt2
      have j1 : (k : Int) < (n : Int) := by omega
      have j2 : (k2 : Int) < (n : Int) := by omega
      have j3 : (k : Int) + 1 = (k2 : Int) := by omega
      have HK := Lib.hid hk
      have HK2 := Lib.hid hk2
      clear ha hb hk hk2
      by_cases hd : digF a.toNat < 16 ∧ digF b.toNat < 16
      · obtain ⟨d1, d2⟩ := hd
        obtain ⟨m, hm⟩ : ∃ m, m = 16 * digF a.toNat + digF b.toNat := ⟨_, rfl⟩
        have q1 : bits BinOp.or IntKind.u8 ((digF a.toNat : Int) * 16) (digF b.toNat : Int) = (m : Int) := by rw [hm]; exact orH _ _ d1 d2
        have q2 : ¬ (15 : Int) < (digF a.toNat : Int) := by omega
        have q3 : ¬ (15 : Int) < (digF b.toNat : Int) := by omega
        have HM := Lib.hid (show m < 256 by omega)
        have HZ2 := Lib.hid (show pairsF r = (pairsF (r.drop (2 * (q + 1)))).map ((z ++ [UInt8.ofNat m]) ++ ·) from by
          rw [HZ.out, HP.out]
          simp only [pairsF]
          rw [if_pos ⟨d1, d2⟩, Option.map_map, hm]
          congr 1
          funext y
          simp)
        have j5 : IntKind.i64.wrap ((k : Int) + 2) = ((k + 2 : Nat) : Int) := by rw [IntWalk.i64_in _ ⟨by omega, by omega⟩]; omega
        have hzl : z.length ≤ 8388609 := by omega
        have o1 := cellsB_one [UInt8.ofNat m]
        clear d1 d2 hm
        go_wp2
        go_quiet ((go_at_call 22; exact Calls.quiet_of_same ((HDG.out _ _).mono fun _ _ ⟨a, b⟩ => ⟨a, b.symm⟩)))
        go_wp2_with (at_builtin; refine wpList_append_St rfl (.tmp 38) (.tmp 43) 37 rfl Tryz.underlying37 info5 rfl Nat.zero_lt_one rfl rfl HS.out.on (Rd.byte _ (UInt8.ofNat m) _ (u8i m HM.out)) o1 (by unfold maxLen; omega) (by omega) ?_; intro A2 c2 w2 hS; replace HS := Lib.hid hS; clear hS)
        go_roundw
        case rel =>
          refine ⟨q + 1, k + 2, z ++ [UInt8.ofNat m], A2, c2, by have := HK.out; have := HK2.out; omega, by have := HK.out; omega, by go_num, by simp, by simp; omega, HZ2.out, ?_⟩
          show St _ _ _
          have hS := HS.out
          simpa [cellsB, aBy] using hS
        case measure => simp [intOf]; omega
      · have HF := Lib.hid (show pairsF r = none from by
          rw [HZ.out, HP.out]
          simp only [pairsF]
          rw [if_neg hd]
          rfl)
        have hc : (15 : Int) < (digF a.toNat : Int) ∨ (¬ (15 : Int) < (digF a.toNat : Int) ∧ (15 : Int) < (digF b.toNat : Int)) := by omega
        clear hd
        rcases hc with q2 | ⟨q2, q3⟩
        all_goals
          go_wp2
          go_quiet ((go_at_call 22; exact Calls.quiet_of_same ((HDG.out _ _).mono fun _ _ ⟨a, b⟩ => ⟨a, b.symm⟩)))
          go_wp2
          go_ret2
          rw [HF.out]
          exact ⟨rfl, HS.out.on.b⟩
    · have j1 : ¬ (k : Int) < (n : Int) := by omega
      have HF := Lib.hid (show pairsF r = some z from by
        rw [HZ.out, List.drop_of_length_le (by have := HN.out; omega)]
        simp [pairsF])
      clear hk
      go_wp2
      go_ret2
      rw [HF.out]
      exact ⟨_, rfl, HS.out⟩
theorem parseHex_c {w : World} (s : List UInt8) (hl : s.length ≤ 8388609) : Calls Tryz.prog 9 #[.string (bstr s)] w (HexPost w (parseHexF s)) := by
  by_cases he : s.length % 2 = 0
  · have e : parseHexF s = none := by
      cases s with
      | nil => rfl
      | cons x r =>
        simp only [parseHexF]
        simp only [List.length_cons] at he
        rw [pairsF_odd r (by omega)]
        split <;> rfl
    rw [e]
    exact parseHex_no s (by omega) (.inl he)
  · cases s with
    | nil => simp at he
    | cons x r =>
      simp only [List.length_cons] at he hl
      by_cases hx : x = 120
      · subst hx
        simp only [parseHexF, if_pos]
        exact parseHex_yes r (by omega) (by omega)
      · simp only [parseHexF, if_neg hx]
        exact parseHex_no (x :: r) (by simp; omega) (.inr ⟨x, r, rfl, by omega, hx⟩)
end Go.Proofs.YtbbcepmhkocgbaaGreatDoor

/- bullalaw27.ScriptApart: the law's walk. -/
namespace Go.Proofs.YtbbcepmhkocgbaaGreatDoor
open Go.RowKit Go.Deep
set_option linter.unusedVariables false

theorem hexPost_some {w : World} {b : List UInt8} {e : Ending} {w' : World} (hl : b.length ≤ big) (h : HexPost w (parseHexF (hexF b)) e w') : ∃ v, e = .returned (.tuple #[v, .bool true]) ∧ Bs w' v b ∧ B w w' := by
  rw [parse_hex] at h
  obtain ⟨v, rfl, hS⟩ := h
  exact ⟨v, rfl, hS.byBs hl, hS.b⟩
set_option maxRecDepth 20000 in
set_option maxHeartbeats 16000000 in
theorem apart_w {w : World} {A C : Array Value} {amc : List Value} {u : Value} {X Y : ByteArray} {ea eb : Int} {z : Bool} {L : List UInt8}
    (hA : A.size = 40) (hC : C.size = 40) (hm : (A.toList.drop 9).take 30 = amc) (hml : amc.length = 30)
    (HLV : ∀ w', B w w' → Calls Tryz.prog 5 #[] w' fun r w2 => r = .returned (.bool true) ∧ B w' w2)
    (HLA : ∀ w', B w w' → Calls Tryz.prog 8 #[.agg A] w' fun r w2 => r = .returned (.tuple #[.string X, .int .i64 ea]) ∧ B w' w2)
    (HLC : ∀ w', B w w' → Calls Tryz.prog 8 #[.agg C] w' fun r w2 => r = .returned (.tuple #[.string Y, .int .i64 eb]) ∧ B w' w2)
    (HHX : ∀ w', B w w' → Calls Tryz.prog 10 #[u] w' fun r w2 => r = .returned (.string (bstr L)) ∧ B w' w2)
    (HPX : ∀ w', B w w' → Calls Tryz.prog 9 #[.string (bstr L)] w' fun r w2 => ∃ v, r = .returned (.tuple #[v, .bool true]) ∧ B w' w2 ∧ ∀ w3, B w2 w3 → Calls Tryz.prog 12 #[v, u] w3 fun r w4 => r = .returned (.bool true) ∧ B w3 w4)
    (HSA : ∀ w', B w w' → Calls Tryz.prog 11 #[.agg A, .agg C] w' fun r w2 => r = .returned (.bool z) ∧ B w' w2)
    (HSM : ∀ w', B w w' → Calls Tryz.prog 13 #[.agg amc.toArray, .agg amc.toArray] w' fun r w2 => r = .returned (.bool true) ∧ B w' w2)
    (hz : (ea = 0 ∧ eb = 0 ∧ (X.toList == Y.toList) = z) ∨ (ea = 1 ∧ X = ⟨#[]⟩) ∨ (ea = 0 ∧ eb = 1)) :
    Calls Tryz.prog 4 #[.agg A, .agg C, u] w fun r w' => r = .returned (.bool true) ∧ B w w' := by
  replace HLV := Lib.hid HLV
  replace HLA := Lib.hid HLA
  replace HLC := Lib.hid HLC
  replace HHX := Lib.hid HHX
  replace HPX := Lib.hid HPX
  replace HSA := Lib.hid HSA
  replace HSM := Lib.hid HSM
  have HI := Lib.hid (show (Tryz.prog.info? 58).map (·.size) = some A.size from by rw [hA]; exact aInfo)
  have HJ := Lib.hid (show (Tryz.prog.info? 58).map (·.size) = some C.size from by rw [hC]; exact aInfo)
  have HM := Lib.hid (show (Tryz.prog.info? 56).map (·.size) = some amc.length from by rw [hml]; kernel_rfl)
  have HMM := Lib.hid hm
  have HS := Lib.hid (show St w ((w.alloc (.cells A 58)).alloc (.cells C 58)) [aBlk (w.heap.size + 1) 58 C, aBlk w.heap.size 58 A] from by
    have h1 := aBlk.new (aBlk.new (St.nil w) 58 A) 58 C
    rw [show (w.alloc (.cells A 58)).heap.size = w.heap.size + 1 from by simp] at h1
    exact h1)
  have HA40 := Lib.hid hA
  have HC40 := Lib.hid hC
  clear hA hC hm hml
  rcases hz with ⟨rfl, rfl, hz⟩ | ⟨rfl, rfl⟩ | ⟨rfl, rfl⟩
  all_goals
    go_enter Tryz.func4, Tryz.ntmps4
    go_wp2_with (first
      | (go_at_call 5; (with_reducible refine callsM (HLV.out _ HS.out.b) ?_); rintro r wn ⟨rfl, hb⟩; replace HS := Lib.hid (HS.out.on.later hb); clear hb)
      | (refine wpList_load_row rfl 58 (.tmp 3) rfl w.heap.size rfl 58 A (0, 0) _ (aBlk.get HS.out.swap) Tryz.underlying58 rfl HI.out ?_)
      | (refine wpList_load_row rfl 58 (.tmp 4) rfl (w.heap.size + 1) rfl 58 C (0, 0) _ (aBlk.get HS.out) Tryz.underlying58 rfl HJ.out ?_)
      | (go_at_call 8; (with_reducible refine callsM (HLA.out _ HS.out.b) ?_); rintro r wn ⟨rfl, hb⟩; replace HS := Lib.hid (HS.out.on.later hb); clear hb)
      | (go_at_call 8; (with_reducible refine callsM (HLC.out _ HS.out.b) ?_); rintro r wn ⟨rfl, hb⟩; replace HS := Lib.hid (HS.out.on.later hb); clear hb)
      | (go_at_call 10; (with_reducible refine callsM (HHX.out _ HS.out.b) ?_); rintro r wn ⟨rfl, hb⟩; replace HS := Lib.hid (HS.out.on.later hb); clear hb)
      | (go_at_call 9; (with_reducible refine callsM (HPX.out _ HS.out.b) ?_); rintro r wn ⟨v, rfl, hb, hv⟩; replace HS := Lib.hid (HS.out.on.later hb); clear hb; have HV := Lib.hid hv; clear hv; have HW := Lib.hid (Below.refl wn.heap.size wn))
      | (go_at_call 11; (with_reducible refine callsM (HSA.out _ HS.out.b) ?_); rintro r wm ⟨rfl, hb⟩; replace HS := Lib.hid (HS.out.on.later hb); replace HW := Lib.hid (HW.out.trans hb); clear hb)
      | (go_at_call 12; (with_reducible refine callsM (HV.out _ HW.out) ?_); rintro r wk ⟨rfl, hb⟩; replace HS := Lib.hid (HS.out.on.later hb); clear hb)
      | (refine list_take (d := some 41) (v := .agg A) rfl rfl (run_load_op (ty := 58) rfl rfl (actLoad (aBlk.get HS.out.swap) HA40.out)) ?_)
      | (refine list_take (d := some 42) (v := .agg C) rfl rfl (run_load_op (ty := 58) rfl rfl (actLoad (aBlk.get HS.out) HC40.out)) ?_)
      | (refine list_take (d := some 56) (v := .agg amc.toArray) rfl rfl (run_load_op (ty := 56) rfl rfl (partLoad (o := 9) (n := 30) (aBlk.get HS.out.swap) HMM.out Tryz.underlying56 rfl HM.out)) ?_)
      | (refine list_take (d := some 58) (v := .agg amc.toArray) rfl rfl (run_load_op (ty := 56) rfl rfl (partLoad (o := 9) (n := 30) (aBlk.get HS.out.swap) HMM.out Tryz.underlying56 rfl HM.out)) ?_)
      | (go_at_call 13; (with_reducible refine callsM (HSM.out _ HS.out.b) ?_); rintro r wl ⟨rfl, hb⟩; replace HS := Lib.hid (HS.out.on.later hb); clear hb)
      | fail)
    go_ret
    exact ⟨by first | rfl | simp_all, HS.out.b⟩
end Go.Proofs.YtbbcepmhkocgbaaGreatDoor

/- bullalaw27.ScriptApart is true (the premises of its walk paid). -/
namespace Go.Proofs.YtbbcepmhkocgbaaGreatDoor
open Go.RowKit Go.Deep
set_option linter.unusedVariables false

theorem hexF_two : ∀ l : List UInt8, (hexF l).length = 2 * l.length + 1
  | [] => rfl
  | c :: r => by
    have h := hexF_two r
    unfold hexF at h ⊢
    simp only [List.flatMap_cons, List.length_cons, List.length_append, List.length_nil] at h ⊢
    omega
open Classical in
theorem apart_c {inn inn' inn2 : Nat → Prop} {w : World} {cs ds : List Value} {u : Value} {a b : ActD} {l : List UInt8} (hT : TabW w) (h : tAct.rd inn w cs a) (k : tAct.rd inn' w ds b) (hl : tY.rd inn2 w [u] l) :
    Calls Tryz.prog 4 #[.agg cs.toArray, .agg ds.toArray, u] w fun r w' => r = .returned (.bool true) ∧ B w w' := by
  obtain ⟨oc, bb, mc, hcs, _, ho, hy, hm⟩ := tAct.open' h
  have hol : oc.length = 5 := tOp.len ho
  have hml : mc.length = 30 := by have := tMsg.len hm; simpa using this
  have hlen := tY.len4 hl
  refine apart_w (amc := mc) (X := if lineOk a then bstr (lineF a) else ⟨#[]⟩) (Y := if lineOk b then bstr (lineF b) else ⟨#[]⟩) (ea := if lineOk a then 0 else 1) (eb := if lineOk b then 0 else 1) (z := eqB a b) (L := hexF l) (tAct.one h).1 (tAct.one k).1
    (by rw [hcs]; simp [actC, List.drop_append, List.take_append, hol, hml]) hml (fun w' hb => live_c (hT.later hb))
    (fun w' hb => (line_c (hT.later hb) (tAct.later h hb)).mono fun r w2 hr => ⟨by rw [hr.1]; split <;> rfl, hr.2⟩)
    (fun w' hb => (line_c (hT.later hb) (tAct.later k hb)).mono fun r w2 hr => ⟨by rw [hr.1]; split <;> rfl, hr.2⟩)
    (fun w' hb => hex_c ((tY.bs hl).later hb) hlen)
    (fun w' hb => (parseHex_c (hexF l) (by have : (hexF l).length = 2 * l.length + 1 := (hexF_two l); omega)).mono fun r w2 hr => ?_)
    (fun w' hb => rAct_c (tAct.later h hb) (tAct.later k hb))
    (fun w' hb => (rMsg_c (tMsg.later hm hb) (tMsg.later hm hb)).mono fun r w2 hr => ⟨by rw [hr.1, eqB_true rfl], hr.2⟩)
    ?_
  · obtain ⟨v, rfl, hv, hB⟩ := hexPost_some (by unfold big; omega) hr
    exact ⟨v, rfl, hB, fun w3 h3 => (equal68 (hv.later h3) ((tY.bs hl).later ((hb.trans hB).trans h3))).mono fun r w4 h4 => by obtain ⟨e1, rfl⟩ := (by simpa using h4 : r = Ending.returned (Value.bool true) ∧ w3 = w4); exact ⟨e1, Below.refl _ _⟩⟩
  · by_cases ha : lineOk a
    · by_cases hb : lineOk b
      · refine .inl ⟨by simp [ha], by simp [hb], ?_⟩
        rw [if_pos ha, if_pos hb, ← line_eq h k ha hb]
        exact bstr_eqE _ _
      · exact .inr (.inr ⟨by simp [ha], by simp [hb]⟩)
    · exact .inr (.inl ⟨by simp [ha], by simp [ha]⟩)
end Go.Proofs.YtbbcepmhkocgbaaGreatDoor
