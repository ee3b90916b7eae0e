/- Lemmas and contracts, part 13. -/
import Derived.Test.YtoikjgcggmemaaaGreatDoorZb12
import Derived.Lib.ConvBytes
/- A log's names: numbers as words at 1, a file's name, which names a log may have, the numbers of a disk without files. -/
namespace Go.Proofs.YtoikjgcggmemaaaGreatDoor
open Go.RowKit Go.Deep
set_option linter.unusedVariables false

set_option maxRecDepth 20000 in
theorem small1 (w : World) : Calls Tryz.prog 85 #[.int .i64 1] w fun e w' => e = .returned (.string ⟨#[49]⟩) ∧ w = w' := by
  go_enter Tryz.func85, Tryz.ntmps85
  go_wp2
  go_ret
  exact ⟨rfl, rfl⟩
set_option maxRecDepth 20000 in
theorem format1 (w : World) : Calls Tryz.prog 73 #[.int .i64 1, .int .i64 10] w fun e w' => e = .returned (.string ⟨#[49]⟩) ∧ w = w' := by
  have H := Lib.hid (small1 w)
  go_enter Tryz.func73, Tryz.ntmps73
  go_wp2_with (first | (go_at_call 85; (with_reducible refine H.out.mono ?_); rintro e w1 ⟨rfl, rfl⟩))
  go_ret
  exact ⟨rfl, rfl⟩
theorem iitoa1 (w : World) : Calls Tryz.prog 58 #[.int .i64 1] w fun e w' => e = .returned (.string ⟨#[49]⟩) ∧ w = w' := by
  have H := Lib.hid (format1 w)
  go_enter Tryz.func58, Tryz.ntmps58
  go_wp2_with (first | (go_at_call 73; (with_reducible refine H.out.mono ?_); rintro e w1 ⟨rfl, rfl⟩))
  go_ret
  exact ⟨rfl, rfl⟩
theorem itoa1 (w : World) : Calls Tryz.prog 43 #[.int .i64 1] w fun e w' => e = .returned (.string ⟨#[49]⟩) ∧ w = w' := by
  have H := Lib.hid (iitoa1 w)
  go_enter Tryz.func43, Tryz.ntmps43
  go_wp2_with (first | (go_at_call 58; (with_reducible refine H.out.mono ?_); rintro e w1 ⟨rfl, rfl⟩))
  go_ret
  exact ⟨rfl, rfl⟩
/-- the first file's name -/
def file1 (n : List UInt8) : List UInt8 := n ++ [46, 49]
theorem bstr_add (a b : List UInt8) : bstr a ++ bstr b = bstr (a ++ b) := by
  apply ByteArray.ext
  simp [bstr]
theorem file1_eq (n : List UInt8) : bstr n ++ ⟨#[46]⟩ ++ ⟨#[49]⟩ = bstr (file1 n) := by
  rw [show (⟨#[46]⟩ : ByteArray) = bstr [46] from rfl, show (⟨#[49]⟩ : ByteArray) = bstr [49] from rfl, bstr_add, bstr_add]
  simp [file1]
theorem bstr_size (n : List UInt8) : (bstr n).size = n.length := by simp [bstr, ByteArray.size]
theorem file_c (w : World) {n : List UInt8} (hn : n.length ≤ 4194304000) : Calls Tryz.prog 31 #[.string (bstr n), .int .i64 1] w fun e w' => e = .returned (.string (bstr (file1 n))) ∧ w = w' := by
  have H := Lib.hid (itoa1 w)
  have q1 : ¬ 9223372036854775807 < (bstr n).size + 1 := by rw [bstr_size]; omega
  have q2 : ¬ 9223372036854775807 < (bstr n).size + 1 + 1 := by rw [bstr_size]; omega
  have E := Lib.hid (file1_eq n)
  go_enter Tryz.func31, Tryz.ntmps31
  go_wp2_with (first | (go_at_call 43; (with_reducible refine H.out.mono ?_); rintro e w1 ⟨rfl, rfl⟩))
  go_ret
  exact ⟨by rw [← E.out]; rfl, rfl⟩
theorem bytesWorld_B (w : World) (e : TypeId) (s : ByteArray) : B w (Lib.bytesWorld w e s) :=
  ⟨rfl, rfl, rfl, by rw [Lib.bytesWorld_size]; omega, fun j hj => Lib.bytesWorld_at_old w e s j hj⟩
def goodC (c : UInt8) : Bool := decide (97 ≤ c.toNat) && decide (c.toNat ≤ 122)
/-- which names and sizes a log may have -/
def mayN (n : List UInt8) (m : Int) : Bool := decide (1 ≤ n.length ∧ n.length ≤ 16 ∧ 64 ≤ m ∧ m ≤ 4194304) && n.all goodC
theorem all_take {n : List UInt8} {q : Nat} (h : q < n.length) (ha : (n.take q).all goodC = true) (hc : goodC n[q] = true) : (n.take (q + 1)).all goodC = true := by
  rw [List.take_succ_eq_append_getElem h, List.all_append, ha]
  simp [hc]
theorem not_all {n : List UInt8} {q : Nat} (h : q < n.length) (hc : goodC n[q] = false) : n.all goodC = false := by
  rw [List.all_eq_false]
  exact ⟨n[q], List.getElem_mem h, by rw [hc]; simp⟩
set_option maxRecDepth 20000 in
set_option maxHeartbeats 4000000 in
theorem may_c (w : World) {n : List UInt8} {m : Int} : Calls Tryz.prog 21 #[.string (bstr n), .int .i64 m] w fun e w' => e = .returned (.bool (mayN n m)) ∧ B w w' := by
  have hsz := bstr_size n
  by_cases h1 : 1 ≤ n.length ∧ n.length ≤ 16 ∧ 64 ≤ m ∧ m ≤ 4194304
  · obtain ⟨a1, a2, a3, a4⟩ := h1
    have HM := Lib.hid (show mayN n m = n.all goodC by unfold mayN; rw [decide_eq_true ⟨a1, a2, a3, a4⟩]; rfl)
    have hrun := Lib.run_convert_string_bytes (P := Tryz.prog) w 9 32 5 (bstr n) Tryz.underlying9 Tryz.underlying32 Tryz.underlying5
    obtain ⟨S, hS⟩ : ∃ S, n.length = S := ⟨_, rfl⟩
    have b1 : ¬ (S : Int) < 1 := by omega
    have b2 : ¬ (16 : Int) < (S : Int) := by omega
    have b3 : ¬ m < 64 := by omega
    have b4 : ¬ (4194304 : Int) < m := by omega
    have HS := Lib.hid hS
    have HSZ := Lib.hid hsz
    have HC := Lib.hid (fun (q : Nat) (hq : q < n.length) => (show (Lib.bytesWorld w 5 (bstr n)).cell? ⟨w.heap.size, q, none⟩ = some (.int .u8 (n[q].toNat : Int)) from by
      have := Lib.bytesWorld_cell w 5 (bstr n) q (by rw [hsz]; exact hq)
      rw [this]
      simp [bstr, hq]))
    have HB := Lib.hid (bytesWorld_B w 5 (bstr n))
    generalize Lib.bytesWorld w 5 (bstr n) = w1 at *
    rw [hsz, hS] at hrun
    rw [hS] at hsz
    generalize grownCap w S 0 5 = cp at *
    have hs16 : S ≤ 16 := by omega
    clear a1 a2 a3 a4 hS
    go_enter Tryz.func21, Tryz.ntmps21
    go_wp2_with fail
    go_loopw [26] (fun i wr => ∃ q : Nat, q ≤ S ∧ i = .int .i64 q ∧ Hid ((n.take q).all goodC = true) ∧ Hid (B w1 wr)) (fun i _ => S - (intOf i).toNat)
    case atStart => exact ⟨0, Nat.zero_le _, rfl, rfl, Below.refl _ _⟩
    case round =>
      obtain ⟨q, hq, rfl, HG, HW⟩ := hrel
      by_cases hlt : q < S
      · have hqi : (q : Int) < S := by omega
        have hql : q < n.length := by have := HS.out; omega
        have kx := HW.out.cell (HC.out q hql)
        have HT := Lib.hid (fun hc => all_take hql HG.out hc)
        have HF := Lib.hid (fun hc => not_all hql hc)
        generalize n[q] = c at *
        by_cases c1 : c.toNat < 97
        · have HZ := Lib.hid (HF.out (by unfold goodC; simp; omega))
          have d1 : ((c.toNat : Nat) : Int) < 97 := by omega
          clear hql c1
          go_wp2_with fail
          go_ret
          exact ⟨retB_ (by rw [HM.out, HZ.out]), HB.out.trans HW.out⟩
        · have d1 : ¬ ((c.toNat : Nat) : Int) < 97 := by omega
          by_cases c2 : 122 < c.toNat
          · have HZ := Lib.hid (HF.out (by unfold goodC; simp; omega))
            have d2 : (122 : Int) < ((c.toNat : Nat) : Int) := by omega
            clear hql c1 c2
            go_wp2_with fail
            go_ret
            exact ⟨retB_ (by rw [HM.out, HZ.out]), HB.out.trans HW.out⟩
          · have HZ := Lib.hid (HT.out (by unfold goodC; simp; omega))
            have d2 : ¬ (122 : Int) < ((c.toNat : Nat) : Int) := by omega
            clear hql c1 c2
            go_wp2_with fail
            go_roundw
            case rel => exact ⟨q + 1, by omega, by go_num, HZ.out, HW.out⟩
            case measure => simp [intOf]; omega
      · have hqe : q = S := by omega
        have hqi : ¬ (q : Int) < S := by omega
        have HZ := Lib.hid (show n.all goodC = true by have := HG.out; rw [List.take_of_length_le (by have := HS.out; omega)] at this; exact this)
        subst hqe
        go_wp2_with fail
        go_ret
        exact ⟨retB_ (by rw [HM.out, HZ.out]), HB.out.trans HW.out⟩
  · have HM := Lib.hid (show mayN n m = false by unfold mayN; rw [decide_eq_false h1]; rfl)
    obtain ⟨S, hS⟩ : ∃ S, n.length = S := ⟨_, rfl⟩
    rw [hS] at hsz h1
    by_cases b1 : S < 1
    · have d1 : (S : Int) < 1 := by omega
      clear h1 hS b1
      go_enter Tryz.func21, Tryz.ntmps21
      go_wp2_with fail
      go_ret
      exact ⟨retB_ (by rw [HM.out]), Below.refl _ _⟩
    · have d1 : ¬ (S : Int) < 1 := by omega
      by_cases b2 : 16 < S
      · have d2 : (16 : Int) < (S : Int) := by omega
        clear h1 hS b1 b2
        go_enter Tryz.func21, Tryz.ntmps21
        go_wp2_with fail
        go_ret
        exact ⟨retB_ (by rw [HM.out]), Below.refl _ _⟩
      · have d2 : ¬ (16 : Int) < (S : Int) := by omega
        by_cases b3 : m < 64
        · clear h1 hS b1 b2
          go_enter Tryz.func21, Tryz.ntmps21
          go_wp2_with fail
          go_ret
          exact ⟨retB_ (by rw [HM.out]), Below.refl _ _⟩
        · have d4 : (4194304 : Int) < m := by omega
          clear h1 hS b1 b2
          go_enter Tryz.func21, Tryz.ntmps21
          go_wp2_with fail
          go_ret
          exact ⟨retB_ (by rw [HM.out]), Below.refl _ _⟩
end Go.Proofs.YtoikjgcggmemaaaGreatDoor

/- strings.CutPrefix, strconv.Atoi at one digit; the numbers of a log on a disk with no file, or with the first file alone. -/
namespace Go.Proofs.YtoikjgcggmemaaaGreatDoor
open Go.RowKit Go.Deep
set_option linter.unusedVariables false

theorem ext_at (l : List UInt8) (a b : Nat) : (bstr l).extract a b = bstr ((l.take b).drop a) := by
  apply ByteArray.ext
  rw [ByteArray.data_extract]
  apply Array.toList_inj.1
  simp [bstr]
  try rw [List.drop_take]
theorem ext_pre (p s : List UInt8) : (bstr (p ++ s)).extract 0 p.length = bstr p := by
  rw [ext_at]; simp
theorem ext_suf (p s : List UInt8) : (bstr (p ++ s)).extract p.length (p ++ s).length = bstr s := by
  rw [ext_at, List.take_length]; simp
set_option maxRecDepth 20000 in
set_option maxHeartbeats 2000000 in
theorem hasPre_c (w : World) {p s : List UInt8} (hl : (p ++ s).length ≤ 4194304000) : Calls Tryz.prog 67 #[.string (bstr (p ++ s)), .string (bstr p)] w fun e w' => e = .returned (.bool true) ∧ w = w' := by
  have h1 := bstr_size (p ++ s)
  have h2 := bstr_size p
  have hle : ((p.length : Nat) : Int) ≤ (((p ++ s).length : Nat) : Int) := by simp; omega
  have hle2 : (((p ++ s).length : Nat) : Int) ≤ 4194304000 := by omega
  have h3 := ext_pre p s
  obtain ⟨P, hP⟩ : ∃ P, p.length = P := ⟨_, rfl⟩
  obtain ⟨S, hS⟩ : ∃ S, (p ++ s).length = S := ⟨_, rfl⟩
  rw [hP] at h2 hle h3
  rw [hS] at h1 hle hle2
  clear hl
  go_enter Tryz.func67, Tryz.ntmps67
  go_wp2_with fail
  go_ret
  exact ⟨by simp, rfl⟩
set_option maxRecDepth 20000 in
set_option maxHeartbeats 2000000 in
theorem icut_c (w : World) {p s : List UInt8} (hl : (p ++ s).length ≤ 4194304000) : Calls Tryz.prog 55 #[.string (bstr (p ++ s)), .string (bstr p)] w fun e w' => e = .returned (.tuple #[.string (bstr s), .bool true]) ∧ w = w' := by
  have H := Lib.hid (hasPre_c w hl)
  have h1 := bstr_size (p ++ s)
  have h2 := bstr_size p
  have hle : ((p.length : Nat) : Int) ≤ (((p ++ s).length : Nat) : Int) := by simp; omega
  have hle2 : (((p ++ s).length : Nat) : Int) ≤ 4194304000 := by omega
  have h3 := ext_suf p s
  obtain ⟨P, hP⟩ : ∃ P, p.length = P := ⟨_, rfl⟩
  obtain ⟨S, hS⟩ : ∃ S, (p ++ s).length = S := ⟨_, rfl⟩
  rw [hP] at h2 hle h3
  rw [hS] at h1 hle hle2 h3
  clear hl
  go_enter Tryz.func55, Tryz.ntmps55
  go_wp2_with (first | (go_at_call 67; (with_reducible refine H.out.mono ?_); rintro e w1 ⟨rfl, rfl⟩))
  go_ret2
  exact ⟨rfl, rfl⟩
theorem cut_c (w : World) {p s : List UInt8} (hl : (p ++ s).length ≤ 4194304000) : Calls Tryz.prog 41 #[.string (bstr (p ++ s)), .string (bstr p)] w fun e w' => e = .returned (.tuple #[.string (bstr s), .bool true]) ∧ w = w' := by
  have H := Lib.hid (icut_c w hl)
  clear hl
  go_enter Tryz.func41, Tryz.ntmps41
  go_wp2_with (first | (go_at_call 55; (with_reducible refine H.out.mono ?_); rintro e w1 ⟨rfl, rfl⟩))
  go_ret2
  exact ⟨rfl, rfl⟩
set_option maxRecDepth 20000 in
set_option maxHeartbeats 2000000 in
theorem iatoi1 (w : World) : Calls Tryz.prog 56 #[.string ⟨#[49]⟩] w fun e w' => e = .returned (.tuple #[.int .i64 1, .nilIface]) ∧ B w w' := by
  have hrun := Lib.run_convert_string_bytes (P := Tryz.prog) w 9 32 5 ⟨#[49]⟩ Tryz.underlying9 Tryz.underlying32 Tryz.underlying5
  have k0 := Lib.bytesWorld_cell w 5 ⟨#[49]⟩ 0 (by decide)
  have HB := Lib.hid (bytesWorld_B w 5 ⟨#[49]⟩)
  rw [show (⟨#[49]⟩ : ByteArray).size = 1 from rfl] at hrun
  rw [show (ByteArray.mk #[49]).data.toList.getD 0 0 = 49 from rfl, show ((49 : UInt8).toNat : Int) = 49 from rfl] at k0
  generalize Lib.bytesWorld w 5 ⟨#[49]⟩ = w1 at *
  generalize grownCap w 1 0 5 = cp at *
  go_enter Tryz.func56, Tryz.ntmps56
  go_wp2_with fail
  go_loopw [6, 49] (fun n i wr => ∃ q : Nat, q ≤ 1 ∧ i = .int .i64 q ∧ n = .int .i64 q ∧ wr = w1) (fun _ i _ => 1 - (intOf i).toNat)
  case atStart => exact ⟨0, by omega, rfl, rfl, rfl⟩
  case round =>
    obtain ⟨q, hq, rfl, rfl, rfl⟩ := hrel
    have hq2 : q = 0 ∨ q = 1 := by omega
    rcases hq2 with rfl | rfl
    · go_wp2_with fail
      go_roundw
      case rel => exact ⟨1, by omega, by go_num, by go_num, trivial⟩
      case measure => simp [intOf]
    · go_wp2_with fail
      go_ret2
      exact ⟨rfl, HB.out⟩
theorem atoi1 (w : World) : Calls Tryz.prog 42 #[.string ⟨#[49]⟩] w fun e w' => e = .returned (.tuple #[.int .i64 1, .nilIface]) ∧ B w w' := by
  have H := Lib.hid (iatoi1 w)
  go_enter Tryz.func42, Tryz.ntmps42
  go_wp2_with (first | (go_at_call 56; (with_reducible refine H.out.mono ?_); rintro e w1 ⟨rfl, hb⟩; have HB := Lib.hid hb; clear hb))
  go_ret2
  exact ⟨rfl, HB.out⟩
end Go.Proofs.YtoikjgcggmemaaaGreatDoor

/- The numbers of a log on a disk with no file, or with the first file alone. -/
namespace Go.Proofs.YtoikjgcggmemaaaGreatDoor
open Go.RowKit Go.Deep Go.Maps
set_option linter.unusedVariables false

theorem infoI : (Tryz.prog.info? 3).map (fun i => (i.zero, i.size, i.bytes)) = some (some (.int .i64 0), 1, 8) := by kernel_rfl
section
variable {W w : World} {p : Nat} {d : Dk} {X : List Asn} {n : List UInt8}
theorem St.rowOne (h : St W w X) (e : TypeId) (x : Value) : St W (w.alloc (.cells #[x] e)) (aRow e 1 (.slice (some ⟨w.heap.size, 0, none⟩) 1 1) 1 [x] :: X) :=
  h.add (B.alloc' _ _) (A := aRow e 1 (.slice (some ⟨w.heap.size, 0, none⟩) 1 1) 1 [x]) (own := fun b => b = w.heap.size)
    ⟨⟨rfl, .inr ⟨_, 1, #[x], rfl, Nat.zero_le _, heap_alloc_new w _, Nat.le_refl _, by unfold maxLen; omega, rfl, rfl⟩⟩, fun g hg => by simpa [Value.ownBlock] using hg.symm⟩ (fun b e => by omega)
theorem St.rowRdd {e : TypeId} {sz n : Nat} {v : Value} {xs : List Value} (h : St W w (aRow e sz v n xs :: X)) : Rd w v n sz xs := by
  obtain ⟨own, h1, _⟩ := h.get
  exact Rd.of_own h1.1
theorem numbers0 (h : St W w (aDisk p d :: X)) (hR : d.R = []) : Calls Tryz.prog 22 #[.pointer (some ⟨p, 0, none⟩), .string (bstr n)] w fun e w' => e = .returned (.slice none 0 0) ∧ St W w' (aDisk p d :: X) := by
  have HL := Lib.hid (list_c h)
  rw [hR] at HL
  clear h
  go_enter Tryz.func22, Tryz.ntmps22
  go_wp2_with (first | (go_at_call 36; (with_reducible refine HL.out.mono ?_); rintro e w1 ⟨v1, rfl, hS⟩; obtain ⟨A1, c1, hv⟩ := (show St W w1 (aRow _ _ _ _ _ :: _) from hS).rowSlice; simp only [List.map_nil, List.length_nil] at hv; subst hv; have H1 := Lib.hid hS.drop; clear hS))
  go_loopw [5, 16] (fun o i wr => i = .int .i64 0 ∧ o = .slice none 0 0 ∧ wr = w1) (fun _ i _ => 0)
  case atStart => exact ⟨rfl, rfl, rfl⟩
  case round =>
    obtain ⟨rfl, rfl, rfl⟩ := hrel
    go_wp2_with fail
    go_ret
    exact ⟨rfl, H1.out⟩
set_option maxRecDepth 20000 in
set_option maxHeartbeats 4000000 in
theorem numbers1 (h : St W w (aDisk p d :: X)) (hn : n.length ≤ 4194304) {b : List UInt8} {s : Nat} (hR : d.R = [⟨file1 n, b, s⟩]) : Calls Tryz.prog 22 #[.pointer (some ⟨p, 0, none⟩), .string (bstr n)] w fun e w' => ∃ g c, e = .returned (.slice (some ⟨g, 0, none⟩) 1 c) ∧ St W w' (aRow 3 1 (.slice (some ⟨g, 0, none⟩) 1 c) 1 [.int .i64 1] :: aDisk p d :: X) := by
  have HL := Lib.hid (list_c h)
  rw [hR] at HL
  have hsz := bstr_size n
  obtain ⟨S, hS⟩ : ∃ S, n.length = S := ⟨_, rfl⟩
  rw [hS] at hsz
  have q0 : ¬ (9223372036854775807 : Nat) < S + 1 := by omega
  have HCP := Lib.hid (fun w' : World => show Calls Tryz.prog 41 #[.string (bstr (file1 n)), .string (bstr n ++ ⟨#[46]⟩)] w' fun e w'' => e = .returned (.tuple #[.string ⟨#[49]⟩, .bool true]) ∧ w' = w'' from by
    have := cut_c (p := n ++ [46]) (s := [49]) w' (by simp; omega)
    rw [show (n ++ [46]) ++ [49] = file1 n by simp [file1], ← bstr_add] at this
    exact this)
  clear h hS hn
  go_enter Tryz.func22, Tryz.ntmps22
  go_wp2_with (first | (go_at_call 36; (with_reducible refine HL.out.mono ?_); rintro e w1 ⟨v1, rfl, hS⟩; obtain ⟨A1, c1, hv⟩ := (show St W w1 (aRow _ _ _ _ _ :: _) from hS).rowSlice; simp only [List.map_cons, List.map_nil, List.length_cons, List.length_nil] at hv; subst hv; have H1 := Lib.hid hS; clear hS))
  go_loopw [5, 16] (fun o i wr => ∃ q : Nat, q ≤ 1 ∧ i = .int .i64 q ∧ (q = 0 → o = .slice none 0 0) ∧ Hid (q = 0 → St W wr (aStr (.slice A1 1 c1) [file1 n] :: aDisk p d :: X)) ∧ Hid (q = 1 → ∃ g c, o = .slice (some ⟨g, 0, none⟩) 1 c ∧ St W wr (aRow 3 1 (.slice (some ⟨g, 0, none⟩) 1 c) 1 [.int .i64 1] :: aDisk p d :: X))) (fun _ i _ => 1 - (intOf i).toNat)
  case atStart => exact ⟨0, by omega, rfl, fun _ => rfl, fun _ => H1.out, fun h => (by cases h)⟩
  case round =>
    obtain ⟨q, hq, rfl, ho, HA, HB⟩ := hrel
    clear H1
    have hq2 : q = 0 ∨ q = 1 := by omega
    rcases hq2 with rfl | rfl
    · obtain rfl := ho rfl
      have HS := Lib.hid (HA.out rfl)
      have hrow : St W wr (aRow 9 1 (.slice A1 1 c1) 1 [.string (bstr (file1 n))] :: aDisk p d :: X) := HS.out
      obtain ⟨g, rfl⟩ := hrow.rowSome (by omega)
      have kx := hrow.rowAt (j := 0) (x := .string (bstr (file1 n))) rfl
      clear hrow ho HA HB
      go_wp2_with (first
        | (go_at_call 41; (with_reducible refine (HCP.out _).mono ?_); rintro e w2 ⟨rfl, rfl⟩)
        | (go_at_call 42; (with_reducible refine (atoi1 _).mono ?_); rintro e w3 ⟨rfl, hb⟩; have H3 := Lib.hid (HS.out.drop.later hb); clear hb)
        | (go_at_call 43; (with_reducible refine (itoa1 _).mono ?_); rintro e w4 ⟨rfl, rfl⟩))
      go_loopw [12] (fun k wr => k = .int .i64 0 ∧ wr = w3) (fun _ _ => 0)
      case atStart => exact ⟨rfl, rfl⟩
      case round =>
        obtain ⟨rfl, rfl⟩ := hrel
        have HO := Lib.hid (fun w' (hw : B wr w') => (H3.out.later hw).rowOne 3 (.int .i64 1))
        have o0 : ∀ x ∈ ([] : List Value), x.oneCell' = true := by simp
        have o1 : ∀ x ∈ [Value.int .i64 1], x.oneCell' = true := by simp [Value.oneCell']
        go_wp2_with fail
        go_region_law (first
          | (refine step_append_St rfl (.tmp 67) (.tmp 70) 55 rfl Tryz.underlying55 infoI rfl Nat.zero_lt_one rfl rfl (HO.out _ (Below.refl _ _).drew) (Rd.nil _ 1) o0 (by unfold maxLen; omega) (by omega) ?_; intro A5 c5 w5 hS; simp only [Nat.add_zero, List.append_nil] at hS; simp only [Nat.add_zero]; have H5 := Lib.hid hS; clear hS)
          | (refine step_append_St rfl (.tmp 65) (.tmp 71) 55 rfl Tryz.underlying55 infoI rfl Nat.zero_lt_one rfl rfl (H5.out.rowNil 3 1) (St.rowRdd H5.out) o1 (by unfold maxLen; omega) (by omega) ?_; intro A6 c6 w6 hS; simp only [Nat.zero_add, List.nil_append] at hS; simp only [Nat.zero_add]; obtain ⟨g6, rfl⟩ := hS.rowSome (by omega); have H6 := Lib.hid hS.drop2; clear hS))
        all_goals
          go_wp2_with fail
          go_roundw
          case rel => exact ⟨1, by omega, by go_num, fun h => (by cases h), fun h => (by cases h), fun _ => ⟨g6, c6, rfl, H6.out⟩⟩
          case measure => simp [intOf]
    · obtain ⟨g, c, rfl, hS⟩ := HB.out rfl
      have HS := Lib.hid hS
      clear ho HA HB hS
      go_wp2_with fail
      go_ret
      exact ⟨_, _, rfl, HS.out⟩
end
end Go.Proofs.YtoikjgcggmemaaaGreatDoor

/- A log with one segment as an object; its methods that only read. -/
namespace Go.Proofs.YtoikjgcggmemaaaGreatDoor
open Go.RowKit Go.Deep Go.Maps
set_option linter.unusedVariables false

/-- a log with one segment: its name, its size at most, what is sure; the segment's number, first record, size, records -/
structure Lg where
  name : List UInt8
  most : Int
  sure : Int
  n : Int
  first : Int
  size : Int
  L : List (List UInt8)
def segC (g : Lg) (vL : Value) : List Value := [.int .i64 g.n, .int .i64 g.first, vL, .int .i64 g.size]
def lgL (p dp : Nat) (g : Lg) (s c : Nat) (vL : Value) : List Asn :=
  [aBlk p 54 #[.pointer (some ⟨dp, 0, none⟩), .string (bstr g.name), .int .i64 g.most, .slice (some ⟨s, 0, none⟩) 1 c, .int .i64 g.sure], aRow 67 4 (.slice (some ⟨s, 0, none⟩) 1 c) 1 (segC g vL), aPl vL g.L]
def LgE (g : Lg) : Prop := g.L.length ≤ 1099511627776 ∧ 0 ≤ g.first ∧ g.first ≤ 9007199254740992
/-- a log -/
def aLg (p dp : Nat) (g : Lg) : Asn := aSome (fun _ : Nat × Nat × Value => LgE g) (fun x => lgL p dp g x.1 x.2.1 x.2.2)
section
variable {W w : World} {p dp s c : Nat} {g : Lg} {vL : Value} {X : List Asn}
theorem St.rot4 {A C D E : Asn} (h : St W w (A :: C :: D :: E :: X)) : St W w (E :: A :: C :: D :: X) := h.perm (List.perm_middle (l₁ := [A, C, D]) (l₂ := X))
theorem St.rot5 {A C D E F : Asn} (h : St W w (A :: C :: D :: E :: F :: X)) : St W w (F :: A :: C :: D :: E :: X) := h.perm (List.perm_middle (l₁ := [A, C, D, E]) (l₂ := X))
theorem St.rot6 {A C D E F G : Asn} (h : St W w (A :: C :: D :: E :: F :: G :: X)) : St W w (G :: A :: C :: D :: E :: F :: X) := h.perm (List.perm_middle (l₁ := [A, C, D, E, F]) (l₂ := X))
theorem St.swap2 {A C D : Asn} (h : St W w (A :: C :: D :: X)) : St W w (A :: D :: C :: X) := h.perm (List.Perm.cons _ (List.Perm.swap _ _ _))
theorem aLg.open_ (h : St W w (aLg p dp g :: X)) : ∃ s c vL, LgE g ∧ St W w (lgL p dp g s c vL ++ X) := by
  obtain ⟨x, h1, h2⟩ := h.open_
  exact ⟨x.1, x.2.1, x.2.2, h1, h2⟩
theorem aLg.shut (hE : LgE g) (h : St W w (lgL p dp g s c vL ++ X)) : St W w (aLg p dp g :: X) := St.shut (a := (s, c, vL)) hE h
theorem St.rowN {e : TypeId} {sz g n c : Nat} {xs : List Value} (h : St W w (aRow e sz (.slice (some ⟨g, 0, none⟩) n c) n xs :: X)) {j : Nat} {x : Value} (hj : xs[j]? = some x) : w.cell? ⟨g, j, none⟩ = some x := by
  obtain ⟨own, hr, _⟩ := h.get
  obtain ⟨hl, A, cap, hv, _, _, hx⟩ := Rd.of_own hr.1
  injection hv with h1 _ _
  have := (hx _ h1.symm).2 j x hj
  rw [addr_at, Nat.zero_add] at this
  exact this
theorem St.rowNSome {e : TypeId} {sz : Nat} {A : Option Addr} {n c : Nat} {xs : List Value} (h : St W w (aRow e sz (.slice A n c) n xs :: X)) (hn : 0 < n) : ∃ g, A = some ⟨g, 0, none⟩ := by
  obtain ⟨own, hr, _⟩ := h.get
  rcases hr.1.2 with ⟨h1, h2⟩ | ⟨g, cap, cur, h1, _⟩
  · injection h1 with h1 h3 h4; omega
  · injection h1 with h1 h3 h4; exact ⟨g, h1⟩
/-- the cells of a log -/
theorem lgL.cells (h : St W w (lgL p dp g s c vL ++ X)) : w.cell? ⟨p, 0, none⟩ = some (.pointer (some ⟨dp, 0, none⟩)) ∧ w.cell? ⟨p, 1, none⟩ = some (.string (bstr g.name)) ∧ w.cell? ⟨p, 2, none⟩ = some (.int .i64 g.most) ∧ w.cell? ⟨p, 3, none⟩ = some (.slice (some ⟨s, 0, none⟩) 1 c) ∧ w.cell? ⟨p, 4, none⟩ = some (.int .i64 g.sure) ∧
    w.cell? ⟨s, 0, none⟩ = some (.int .i64 g.n) ∧ w.cell? ⟨s, 1, none⟩ = some (.int .i64 g.first) ∧ w.cell? ⟨s, 2, none⟩ = some vL ∧ w.cell? ⟨s, 3, none⟩ = some (.int .i64 g.size) := by
  have hb := aBlk.get h
  have c0 := hb.cell 0
  have c1 := hb.cell 1
  have c2 := hb.cell 2
  have c3 := hb.cell 3
  have c4 := hb.cell 4
  simp at c0 c1 c2 c3 c4
  have hs := St.swap h
  exact ⟨c0, c1, c2, c3, c4, hs.rowN (j := 0) rfl, hs.rowN (j := 1) rfl, hs.rowN (j := 2) rfl, hs.rowN (j := 3) rfl⟩
theorem lgL.recs (h : St W w (lgL p dp g s c vL ++ X)) : ∃ A c', vL = .slice A g.L.length c' := aPl.slice (St.rot3 h)
theorem Lnone_o (h : St W w (lgL p dp g s c vL ++ X)) : Calls Tryz.prog 27 #[.pointer (some ⟨p, 0, none⟩)] w fun e w' => e = .returned (.bool false) ∧ w = w' := by
  obtain ⟨_, _, _, k3, _⟩ := lgL.cells h
  clear h
  go_enter Tryz.func27, Tryz.ntmps27
  go_wp2
  go_ret
  exact ⟨rfl, rfl⟩
theorem Lend_o (h : St W w (lgL p dp g s c vL ++ X)) : Calls Tryz.prog 29 #[.pointer (some ⟨p, 0, none⟩)] w fun e w' => e = .returned (.pointer (some ⟨s, 0, none⟩)) ∧ B w w' := by
  obtain ⟨_, _, _, k3, _⟩ := lgL.cells h
  clear h
  go_enter Tryz.func29, Tryz.ntmps29
  go_wp2_with fail
  go_quiet (fail)
  go_wp2_with fail
  go_ret
  exact ⟨rfl, B.drewN' _⟩
def lastF (g : Lg) : Int := g.first + (g.L.length : Int) - 1
theorem segLast_c (w : World) (hE : LgE g) {A : Option Addr} {c' : Nat} : Calls Tryz.prog 32 #[.agg #[.int .i64 g.n, .int .i64 g.first, .slice A g.L.length c', .int .i64 g.size]] w fun e w' => e = .returned (.int .i64 (lastF g)) ∧ B w w' := by
  obtain ⟨h1, h2, h3⟩ := hE
  have HF := Lib.hid (show g.first + (g.L.length : Int) - 1 = lastF g from rfl)
  generalize g.first = f at *
  obtain ⟨l, hl⟩ : ∃ l, g.L.length = l := ⟨_, rfl⟩
  rw [hl] at h1 HF ⊢
  have hb : B w (w.alloc (.cells #[.int .i64 g.n, .int .i64 f, .slice A l c', .int .i64 g.size] 67)) := B.alloc' _ _
  have HB := Lib.hid hb
  have h4 : (l : Int) ≤ 1099511627776 := by omega
  generalize g.n = n at *
  generalize g.size = sz at *
  clear hb hl h1
  go_enter Tryz.func32, Tryz.ntmps32
  go_wp2_with fail
  go_ret
  exact ⟨retI HF.out, HB.out⟩
theorem Llast_o (h : St W w (lgL p dp g s c vL ++ X)) (hE : LgE g) : Calls Tryz.prog 13 #[.pointer (some ⟨p, 0, none⟩)] w fun e w' => e = .returned (.int .i64 (lastF g)) ∧ B w w' := by
  have HN := Lib.hid (Lnone_o h)
  have HEN := Lib.hid (Lend_o h)
  obtain ⟨A, c', rfl⟩ := lgL.recs h
  have HS := Lib.hid (fun w' => segLast_c (g := g) w' hE (A := A) (c' := c'))
  obtain ⟨_, _, _, _, _, k0, k1, k2, k3⟩ := lgL.cells h
  clear h hE
  generalize lastF g = z at *
  go_enter Tryz.func13, Tryz.ntmps13
  go_wp2_with (first
    | (go_at_call 27; (with_reducible refine HN.out.mono ?_); rintro e w1 ⟨rfl, rfl⟩)
    | (go_at_call 29; (with_reducible refine HEN.out.mono ?_); rintro e w2 ⟨rfl, hb⟩; have HB := Lib.hid hb; have l0 := hb.cell k0; have l1 := hb.cell k1; have l2 := hb.cell k2; have l3 := hb.cell k3; clear hb)
    | (go_at_call 32; (with_reducible refine (HS.out _).mono ?_); rintro e w3 ⟨rfl, hb⟩; have HB3 := Lib.hid hb; clear hb))
  go_ret
  exact ⟨rfl, HB.out.trans HB3.out⟩
theorem Lsynced_o (h : St W w (lgL p dp g s c vL ++ X)) : Calls Tryz.prog 12 #[.pointer (some ⟨p, 0, none⟩)] w fun e w' => e = .returned (.int .i64 g.sure) ∧ w = w' := by
  have HN := Lib.hid (Lnone_o h)
  obtain ⟨_, _, _, _, k4, _⟩ := lgL.cells h
  clear h
  go_enter Tryz.func12, Tryz.ntmps12
  go_wp2_with (first
    | (go_at_call 27; (with_reducible refine HN.out.mono ?_); rintro e w1 ⟨rfl, rfl⟩))
  go_ret
  exact ⟨rfl, rfl⟩
end
end Go.Proofs.YtoikjgcggmemaaaGreatDoor
