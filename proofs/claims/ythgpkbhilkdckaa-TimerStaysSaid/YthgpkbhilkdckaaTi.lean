/- What the functions of package timer and of its reference return: plain Lean functions of the two numbers. -/
import Derived.Test.YthgpkbhilkdckaaB0
import Derived.Test.YthgpkbhilkdckaaRows
namespace Go.Proofs.Ythgpkbhilkdckaa
open Go.RowKit
set_option linter.unusedVariables false

/-- may a timer be -/
def tOK (l k : Int) : Bool := (l == 8 || l == 16 || l == 32 || l == 64 || l == 128 || l == 256 || l == 512 || l == 1024 || l == 2048 || l == 4096) && decide (0 ≤ k) && decide (k ≤ l)
def chk (l k : Int) : Int := if tOK l k then 0 else 1
def mL (l k : Int) : Int := if tOK l k then l else 8
def mK (l k : Int) : Int := if tOK l k then k else 0

@[go_sem] theorem eq35 (a b c d : Int) (w : World) : (Op.equalIn 10000 35 (.agg #[.int .i64 a, .int .i64 b]) (.agg #[.int .i64 c, .int .i64 d])).run Try.prog w = .ok (a == c && b == d) w := by
  have hS : Try.prog.underlying 35 = some (.struct (Try.prog.fieldsOf 35)) := by kernel_rfl
  rw [show (10000 : Nat) = 9999 + 1 from rfl, run_equalIn_agg w 9999 35 _ _ hS (by kernel_rfl)]
  simp only [Program.fieldsOf, Try.underlying35]
  go_simp
  by_cases h1 : a = c <;> by_cases h2 : b = d <;> simp [h1, h2]

@[go_sem] theorem build35 (a b : Int) (w : World) : (Instr.build 35 #[(0, .int .i64 a), (1, .int .i64 b)]).run Try.prog w = .ok (.agg #[.int .i64 a, .int .i64 b]) w := run_build w 35 _ _ (by kernel_rfl)

@[go_sem] theorem field35_1 (a b : Int) (w : World) : (Instr.field 35 (.agg #[.int .i64 a, .int .i64 b]) 1).run Try.prog w = .ok (.int .i64 b) w := by kernel_rfl

def lens (n : Int) : Prop := n = 8 ∨ n = 16 ∨ n = 32 ∨ n = 64 ∨ n = 128 ∨ n = 256 ∨ n = 512 ∨ n = 1024 ∨ n = 2048 ∨ n = 4096 ∨ n = 8192
theorem chk_yes {l k : Int} (h : lens l) (h1 : l ≤ 4096) (h2 : 0 ≤ k) (h3 : k ≤ l) : chk l k = 0 := by
  unfold chk tOK; unfold lens at h
  rw [if_pos]; simp; omega
theorem chk_no {l k : Int} (h : ∀ n, lens n → n < 8192 → ¬ (l = n ∧ 0 ≤ k ∧ k ≤ l)) : chk l k = 1 := by
  unfold chk tOK; unfold lens at h
  rw [if_neg]
  simp
  intro h1 h2
  have := h l (by omega) (by omega)
  omega
/-- the loop's rest: no match so far below n -/
def Rel (l k n : Int) : Prop := lens n ∧ ∀ m, lens m → m < n → ¬ (l = m ∧ 0 ≤ k ∧ k ≤ l)
theorem Rel.start (l k : Int) : Rel l k 8 := ⟨by unfold lens; omega, fun m hm h => by unfold lens at hm; omega⟩
theorem Rel.next {l k n : Int} (h : Rel l k n) (hn : n ≤ 4096) (hno : ¬ (l = n ∧ 0 ≤ k ∧ k ≤ l)) : Rel l k (n * 2) := by
  obtain ⟨h1, h2⟩ := h
  unfold lens at h1
  refine ⟨by unfold lens; omega, fun m hm hlt => ?_⟩
  by_cases e : m < n
  · exact h2 m hm e
  · unfold lens at hm
    have : m = n := by omega
    subst this; exact hno
theorem mT {l k : Int} (h : tOK l k = true) : mL l k = l ∧ mK l k = k := by simp [mL, mK, h]
theorem mF {l k : Int} (h : tOK l k = false) : mL l k = 8 ∧ mK l k = 0 := by simp [mL, mK, h]
theorem cT {l k : Int} (h : tOK l k = true) : (chk l k != 0) = false := by simp [chk, h]
theorem cF {l k : Int} (h : tOK l k = false) : (chk l k != 0) = true := by simp [chk, h]
theorem mOK (l k : Int) : tOK (mL l k) (mK l k) = true := by
  cases h : tOK l k
  · rw [(mF h).1, (mF h).2]; rfl
  · rw [(mT h).1, (mT h).2]; exact h
theorem tB {l k : Int} (h : tOK l k = true) : 8 ≤ l ∧ l ≤ 4096 ∧ 0 ≤ k ∧ k ≤ l := by
  simp [tOK] at h; omega
theorem mB (l k : Int) : 8 ≤ mL l k ∧ mL l k ≤ 4096 ∧ 0 ≤ mK l k ∧ mK l k ≤ mL l k := tB (mOK l k)
def dL (l k : Int) : Int := min (2 * mL l k) 4096
theorem dOK (l k : Int) : tOK (dL l k) (mK l k) = true := by
  have h := mOK l k
  have hb := mB l k
  have hd : dL l k = min (2 * mL l k) 4096 := rfl
  simp [tOK] at h ⊢
  omega
theorem dM (l k : Int) : mL (dL l k) (mK l k) = dL l k := by simp [mL, dOK]
def sK (l k : Int) : Int := if mK l k = 0 then mL l k else mK l k
def tK (l k : Int) : Int := if mK l k = 0 then 0 else mK l k - 1
def tO (l k : Int) : Bool := mK l k == 1


set_option maxHeartbeats 400000 in
theorem new29 (w : World) : Calls Try.prog 29 #[] w fun e w' => e = .returned (.agg #[.int .i64 (8), .int .i64 (0)]) ∧ B w w' := by
  go_enter Try.func29, Try.ntmps29
  go_wp2
  exact bodyPost_ret (v := .agg #[.int .i64 (8), .int .i64 (0)]) (by simp [results, Try.results29, go_sem]) rfl ⟨rfl, B.alloc' _ _⟩


set_option maxHeartbeats 400000 in
theorem new34 (w : World) : Calls Try.prog 34 #[] w fun e w' => e = .returned (.agg #[.int .i64 (8), .int .i64 (0)]) ∧ B w w' := by
  go_enter Try.func34, Try.ntmps34
  go_wp2
  exact bodyPost_ret (v := .agg #[.int .i64 (8), .int .i64 (0)]) (by simp [results, Try.results34, go_sem]) rfl ⟨rfl, B.alloc' _ _⟩


set_option maxHeartbeats 400000 in
theorem check36 (l k : Int) (w : World) : Calls Try.prog 36 #[.agg #[.int .i64 l, .int .i64 k]] w fun e w' => e = .returned (.int .i64 (chk l k)) ∧ B w w' := by
  go_enter Try.func36, Try.ntmps36
  go_wp2
  go_loop [3] (fun n => ∃ m : Int, n = .int .i64 m ∧ Rel l k m) (fun n => (8192 - intOf n).toNat)
  case atStart => exact ⟨8, rfl, Rel.start l k⟩
  case round =>
    obtain ⟨n, rfl, hr⟩ := hrel
    have h8 : 8 ≤ n ∧ n ≤ 8192 := by have := hr.1; unfold lens at this; omega
    by_cases hn : n ≤ 4096
    · by_cases h1 : (l : Int) = n
      · obtain rfl := h1
        by_cases h2 : 0 ≤ k
        · by_cases h3 : k ≤ l
          · have hc := Lib.hid (chk_yes hr.1 hn h2 h3)
            clear hr
            go_wp2
            go_ret
            exact ⟨retI hc.out.symm, B.alloc' _ _⟩
          · have hnx := Lib.hid (hr.next hn (by omega))
            clear hr
            go_wp2
            go_round
            case rel => exact ⟨_, rfl, hnx.out⟩
            case measure => (simp [intOf]) <;> omega
        · have hnx := Lib.hid (hr.next hn (by omega))
          clear hr
          go_wp2
          go_round
          case rel => exact ⟨_, rfl, hnx.out⟩
          case measure => (simp [intOf]) <;> omega
      · have hnx := Lib.hid (hr.next hn (by omega))
        have h1' : ((l : Int) == n) = false := by simpa using h1
        clear hr h1
        go_wp2
        go_round
        case rel => exact ⟨_, rfl, hnx.out⟩
        case measure => (simp [intOf]) <;> omega
    · have hc := Lib.hid (chk_no (l := l) (k := k) (fun m h hlt => hr.2 m h (by have := hr.1; unfold lens at this; omega)))
      clear hr
      go_wp2
      go_ret
      exact ⟨retI hc.out.symm, B.alloc' _ _⟩


set_option maxHeartbeats 400000 in
theorem check35 (l k : Int) (w : World) : Calls Try.prog 35 #[.agg #[.int .i64 l, .int .i64 k]] w fun e w' => e = .returned (.int .i64 (chk l k)) ∧ B w w' := by
  have hreg : ∀ (l k : Int) (w w' : World), B (w.alloc (.cells #[.int .i64 l, .int .i64 k] 35)) w' → w'.cell? ⟨w.heap.size, 0, none⟩ = some (.int .i64 l) ∧ w'.cell? ⟨w.heap.size, 1, none⟩ = some (.int .i64 k) := fun l k w w' h => ⟨by rw [Below.cell h (by simp)]; go_simp, by rw [Below.cell h (by simp)]; go_simp⟩
  by_cases hnew : l = 8 ∧ k = 0
  · obtain ⟨rfl, rfl⟩ := hnew
    have hl := hreg 8 0 w
    clear hreg
    go_enter Try.func35, Try.ntmps35
    go_wp2
    go_region_held3 (fun w' => B (w.alloc (.cells #[.int .i64 8, .int .i64 0] 35)) w') (first | exact B.trans (by assumption) hb | exact (Below.refl _ _).drew | assumption) (first | (go_at_call 29; refine (new29 _).mono ?_; rintro e w' ⟨rfl, hb⟩))
    go_wp2
    go_ret
    exact ⟨retI rfl, (B.alloc' _ _).trans ‹_›⟩
  · have hl := hreg l k w
    clear hreg
    by_cases hl8 : l = 8
    · obtain rfl := hl8
      have hk0 : (k == 0) = false := by simp at hnew ⊢; exact hnew
      clear hnew
      go_enter Try.func35, Try.ntmps35
      go_wp2
      go_region_held3 (fun w' => B (w.alloc (.cells #[.int .i64 8, .int .i64 k] 35)) w') (first | exact B.trans (by assumption) hb | exact (Below.refl _ _).drew | assumption) (first | (go_at_call 29; refine (new29 _).mono ?_; rintro e w' ⟨rfl, hb⟩))
      obtain ⟨hc0, hc1⟩ := hl _ ‹_›
      have hB := (B.alloc' w _).trans ‹B (w.alloc _) _›
      clear hl
      go_wp2
      go_loop [3] (fun n => ∃ m : Int, n = .int .i64 m ∧ Rel 8 k m) (fun n => (8192 - intOf n).toNat)
      case atStart => exact ⟨8, rfl, Rel.start 8 k⟩
      case round =>
        obtain ⟨n, rfl, hr⟩ := hrel
        have h8 : 8 ≤ n ∧ n ≤ 8192 := by have := hr.1; unfold lens at this; omega
        by_cases hn : n ≤ 4096
        · by_cases h1 : (8 : Int) = n
          · subst h1
            by_cases h2 : 0 ≤ k
            · by_cases h3 : k ≤ 8
              · have hc := Lib.hid (chk_yes hr.1 hn h2 h3)
                clear hr
                go_wp2
                go_ret
                exact ⟨retI hc.out.symm, hB⟩
              · have hnx := Lib.hid (hr.next hn (by omega))
                clear hr
                go_wp2
                go_round
                case rel => exact ⟨_, rfl, hnx.out⟩
                case measure => (simp [intOf]) <;> omega
            · have hnx := Lib.hid (hr.next hn (by omega))
              clear hr
              go_wp2
              go_round
              case rel => exact ⟨_, rfl, hnx.out⟩
              case measure => (simp [intOf]) <;> omega
          · have hnx := Lib.hid (hr.next hn (by omega))
            have h1' : ((8 : Int) == n) = false := by simpa using h1
            clear hr h1
            go_wp2
            go_round
            case rel => exact ⟨_, rfl, hnx.out⟩
            case measure => (simp [intOf]) <;> omega
        · have hc := Lib.hid (chk_no (l := 8) (k := k) (fun m h hlt => hr.2 m h (by have := hr.1; unfold lens at this; omega)))
          clear hr
          go_wp2
          go_ret
          exact ⟨retI hc.out.symm, hB⟩

    · have hk0 : (l == 8) = false := by simpa using hl8
      clear hnew hl8
      go_enter Try.func35, Try.ntmps35
      go_wp2
      go_region_held3 (fun w' => B (w.alloc (.cells #[.int .i64 l, .int .i64 k] 35)) w') (first | exact B.trans (by assumption) hb | exact (Below.refl _ _).drew | assumption) (first | (go_at_call 29; refine (new29 _).mono ?_; rintro e w' ⟨rfl, hb⟩))
      obtain ⟨hc0, hc1⟩ := hl _ ‹_›
      have hB := (B.alloc' w _).trans ‹B (w.alloc _) _›
      clear hl
      go_wp2
      go_loop [3] (fun n => ∃ m : Int, n = .int .i64 m ∧ Rel l k m) (fun n => (8192 - intOf n).toNat)
      case atStart => exact ⟨8, rfl, Rel.start l k⟩
      case round =>
        obtain ⟨n, rfl, hr⟩ := hrel
        have h8 : 8 ≤ n ∧ n ≤ 8192 := by have := hr.1; unfold lens at this; omega
        by_cases hn : n ≤ 4096
        · by_cases h1 : (l : Int) = n
          · obtain rfl := h1
            by_cases h2 : 0 ≤ k
            · by_cases h3 : k ≤ l
              · have hc := Lib.hid (chk_yes hr.1 hn h2 h3)
                clear hr
                go_wp2
                go_ret
                exact ⟨retI hc.out.symm, hB⟩
              · have hnx := Lib.hid (hr.next hn (by omega))
                clear hr
                go_wp2
                go_round
                case rel => exact ⟨_, rfl, hnx.out⟩
                case measure => (simp [intOf]) <;> omega
            · have hnx := Lib.hid (hr.next hn (by omega))
              clear hr
              go_wp2
              go_round
              case rel => exact ⟨_, rfl, hnx.out⟩
              case measure => (simp [intOf]) <;> omega
          · have hnx := Lib.hid (hr.next hn (by omega))
            have h1' : ((l : Int) == n) = false := by simpa using h1
            clear hr h1
            go_wp2
            go_round
            case rel => exact ⟨_, rfl, hnx.out⟩
            case measure => (simp [intOf]) <;> omega
        · have hc := Lib.hid (chk_no (l := l) (k := k) (fun m h hlt => hr.2 m h (by have := hr.1; unfold lens at this; omega)))
          clear hr
          go_wp2
          go_ret
          exact ⟨retI hc.out.symm, hB⟩



set_option maxHeartbeats 400000 in
theorem may110 (l k : Int) (w : World) : Calls Try.prog 110 #[.agg #[.int .i64 l, .int .i64 k]] w fun e w' => e = .returned (.agg #[.int .i64 (mL l k), .int .i64 (mK l k)]) ∧ B w w' := by
  cases h : tOK l k
  · have hc := cF h
    have e1 := Lib.hid (mF h)
    clear h
    go_enter Try.func110, Try.ntmps110
    go_wp2_with (first | (go_at_call 35; refine (check35 _ _ _).mono ?_; rintro e w1 ⟨rfl, hb1⟩; obtain ⟨f1, g1⟩ := bcell hb1; obtain ⟨y1, z1⟩ := bsize (w := w) 1 hb1 (by simp)) | (go_at_call 29; refine (new29 _).mono ?_; rintro e w2 ⟨rfl, hb2⟩; obtain ⟨f2, g2⟩ := bcell hb2; obtain ⟨y2, z2⟩ := bsize (w := w) 1 (B.trans hb1 hb2) (by simp)))
    exact bodyPost_ret (v := .agg #[.int .i64 (8), .int .i64 (0)]) (by simp [results, Try.results110, go_sem, *]) rfl ⟨retT e1.out.1.symm e1.out.2.symm, (by repeat (first | exact Below.refl _ _ | refine Below.setCell ?_ (by simp) _ | refine Below.drew ?_ | refine B.trans ?_ (B.alloc' _ _) | refine B.trans ?_ hb2 | refine B.trans ?_ hb1))⟩
  · have hc := cT h
    have e1 := Lib.hid (mT h)
    clear h
    go_enter Try.func110, Try.ntmps110
    go_wp2_with (first | (go_at_call 35; refine (check35 _ _ _).mono ?_; rintro e w1 ⟨rfl, hb1⟩; obtain ⟨f1, g1⟩ := bcell hb1; obtain ⟨y1, z1⟩ := bsize (w := w) 1 hb1 (by simp)))
    exact bodyPost_ret (v := .agg #[.int .i64 (l), .int .i64 (k)]) (by simp [results, Try.results110, go_sem, *]) rfl ⟨retT e1.out.1.symm e1.out.2.symm, (by repeat (first | exact Below.refl _ _ | refine Below.setCell ?_ (by simp) _ | refine Below.drew ?_ | refine B.trans ?_ (B.alloc' _ _) | refine B.trans ?_ hb1))⟩


set_option maxHeartbeats 400000 in
theorem may111 (l k : Int) (w : World) : Calls Try.prog 111 #[.agg #[.int .i64 l, .int .i64 k]] w fun e w' => e = .returned (.agg #[.int .i64 (mL l k), .int .i64 (mK l k)]) ∧ B w w' := by
  cases h : tOK l k
  · have hc := cF h
    have e1 := Lib.hid (mF h)
    clear h
    go_enter Try.func111, Try.ntmps111
    go_wp2_with (first | (go_at_call 36; refine (check36 _ _ _).mono ?_; rintro e w1 ⟨rfl, hb1⟩; obtain ⟨f1, g1⟩ := bcell hb1; obtain ⟨y1, z1⟩ := bsize (w := w) 1 hb1 (by simp)) | (go_at_call 34; refine (new34 _).mono ?_; rintro e w2 ⟨rfl, hb2⟩; obtain ⟨f2, g2⟩ := bcell hb2; obtain ⟨y2, z2⟩ := bsize (w := w) 1 (B.trans hb1 hb2) (by simp)))
    exact bodyPost_ret (v := .agg #[.int .i64 (8), .int .i64 (0)]) (by simp [results, Try.results111, go_sem, *]) rfl ⟨retT e1.out.1.symm e1.out.2.symm, (by repeat (first | exact Below.refl _ _ | refine Below.setCell ?_ (by simp) _ | refine Below.drew ?_ | refine B.trans ?_ (B.alloc' _ _) | refine B.trans ?_ hb2 | refine B.trans ?_ hb1))⟩
  · have hc := cT h
    have e1 := Lib.hid (mT h)
    clear h
    go_enter Try.func111, Try.ntmps111
    go_wp2_with (first | (go_at_call 36; refine (check36 _ _ _).mono ?_; rintro e w1 ⟨rfl, hb1⟩; obtain ⟨f1, g1⟩ := bcell hb1; obtain ⟨y1, z1⟩ := bsize (w := w) 1 hb1 (by simp)))
    exact bodyPost_ret (v := .agg #[.int .i64 (l), .int .i64 (k)]) (by simp [results, Try.results111, go_sem, *]) rfl ⟨retT e1.out.1.symm e1.out.2.symm, (by repeat (first | exact Below.refl _ _ | refine Below.setCell ?_ (by simp) _ | refine Below.drew ?_ | refine B.trans ?_ (B.alloc' _ _) | refine B.trans ?_ hb1))⟩


set_option maxHeartbeats 400000 in
theorem again38 (l k : Int) (w : World) : Calls Try.prog 38 #[.agg #[.int .i64 l, .int .i64 k]] w fun e w' => e = .returned (.agg #[.int .i64 (mL l k), .int .i64 (mL l k)]) ∧ B w w' := by
  have hm := mB l k
  go_enter Try.func38, Try.ntmps38
  go_wp2_with (first | (go_at_call 110; refine (may110 _ _ _).mono ?_; rintro e w1 ⟨rfl, hb1⟩; obtain ⟨f1, g1⟩ := bcell hb1; obtain ⟨y1, z1⟩ := bsize (w := w) 1 hb1 (by simp)))
  exact bodyPost_ret (v := .agg #[.int .i64 (mL l k), .int .i64 (mL l k)]) (by simp [results, Try.results38, go_sem, *]) rfl ⟨rfl, (by repeat (first | exact Below.refl _ _ | refine Below.setCell ?_ (by simp) _ | refine Below.drew ?_ | refine B.trans ?_ (B.alloc' _ _) | refine B.trans ?_ hb1))⟩


set_option maxHeartbeats 400000 in
theorem again39 (l k : Int) (w : World) : Calls Try.prog 39 #[.agg #[.int .i64 l, .int .i64 k]] w fun e w' => e = .returned (.agg #[.int .i64 (mL l k), .int .i64 (mL l k)]) ∧ B w w' := by
  have hm := mB l k
  go_enter Try.func39, Try.ntmps39
  go_wp2_with (first | (go_at_call 111; refine (may111 _ _ _).mono ?_; rintro e w1 ⟨rfl, hb1⟩; obtain ⟨f1, g1⟩ := bcell hb1; obtain ⟨y1, z1⟩ := bsize (w := w) 1 hb1 (by simp)))
  exact bodyPost_ret (v := .agg #[.int .i64 (mL l k), .int .i64 (mL l k)]) (by simp [results, Try.results39, go_sem, *]) rfl ⟨rfl, (by repeat (first | exact Below.refl _ _ | refine Below.setCell ?_ (by simp) _ | refine Below.drew ?_ | refine B.trans ?_ (B.alloc' _ _) | refine B.trans ?_ hb1))⟩


set_option maxHeartbeats 400000 in
theorem stop40 (l k : Int) (w : World) : Calls Try.prog 40 #[.agg #[.int .i64 l, .int .i64 k]] w fun e w' => e = .returned (.agg #[.int .i64 (mL l k), .int .i64 (0)]) ∧ B w w' := by
  have hm := mB l k
  go_enter Try.func40, Try.ntmps40
  go_wp2_with (first | (go_at_call 110; refine (may110 _ _ _).mono ?_; rintro e w1 ⟨rfl, hb1⟩; obtain ⟨f1, g1⟩ := bcell hb1; obtain ⟨y1, z1⟩ := bsize (w := w) 1 hb1 (by simp)))
  exact bodyPost_ret (v := .agg #[.int .i64 (mL l k), .int .i64 (0)]) (by simp [results, Try.results40, go_sem, *]) rfl ⟨rfl, (by repeat (first | exact Below.refl _ _ | refine Below.setCell ?_ (by simp) _ | refine Below.drew ?_ | refine B.trans ?_ (B.alloc' _ _) | refine B.trans ?_ hb1))⟩


set_option maxHeartbeats 400000 in
theorem stop41 (l k : Int) (w : World) : Calls Try.prog 41 #[.agg #[.int .i64 l, .int .i64 k]] w fun e w' => e = .returned (.agg #[.int .i64 (mL l k), .int .i64 (0)]) ∧ B w w' := by
  have hm := mB l k
  go_enter Try.func41, Try.ntmps41
  go_wp2_with (first | (go_at_call 111; refine (may111 _ _ _).mono ?_; rintro e w1 ⟨rfl, hb1⟩; obtain ⟨f1, g1⟩ := bcell hb1; obtain ⟨y1, z1⟩ := bsize (w := w) 1 hb1 (by simp)))
  exact bodyPost_ret (v := .agg #[.int .i64 (mL l k), .int .i64 (0)]) (by simp [results, Try.results41, go_sem, *]) rfl ⟨rfl, (by repeat (first | exact Below.refl _ _ | refine Below.setCell ?_ (by simp) _ | refine Below.drew ?_ | refine B.trans ?_ (B.alloc' _ _) | refine B.trans ?_ hb1))⟩


set_option maxHeartbeats 400000 in
theorem runs45 (l k : Int) (w : World) : Calls Try.prog 45 #[.agg #[.int .i64 l, .int .i64 k]] w fun e w' => e = .returned (.bool (decide (0 < mK l k))) ∧ B w w' := by
  go_enter Try.func45, Try.ntmps45
  go_wp2_with (first | (go_at_call 110; refine (may110 _ _ _).mono ?_; rintro e w1 ⟨rfl, hb1⟩))
  go_ret
  exact ⟨rfl, (by repeat (first | exact Below.refl _ _ | refine Below.setCell ?_ (by simp) _ | refine Below.drew ?_ | refine B.trans ?_ (B.alloc' _ _) | refine B.trans ?_ hb1))⟩


set_option maxHeartbeats 400000 in
theorem runs46 (l k : Int) (w : World) : Calls Try.prog 46 #[.agg #[.int .i64 l, .int .i64 k]] w fun e w' => e = .returned (.bool (decide (0 < mK l k))) ∧ B w w' := by
  go_enter Try.func46, Try.ntmps46
  go_wp2_with (first | (go_at_call 111; refine (may111 _ _ _).mono ?_; rintro e w1 ⟨rfl, hb1⟩))
  go_ret
  exact ⟨rfl, (by repeat (first | exact Below.refl _ _ | refine Below.setCell ?_ (by simp) _ | refine Below.drew ?_ | refine B.trans ?_ (B.alloc' _ _) | refine B.trans ?_ hb1))⟩


set_option maxHeartbeats 400000 in
theorem calm43 (l k : Int) (w : World) : Calls Try.prog 43 #[.agg #[.int .i64 l, .int .i64 k]] w fun e w' => e = .returned (.agg #[.int .i64 (8), .int .i64 (min (mK l k) 8)]) ∧ B w w' := by
  have hm := mB l k
  by_cases h8 : mK l k ≤ 8
  · have e1 := Lib.hid (show mK l k = min (mK l k) 8 by omega)
    go_enter Try.func43, Try.ntmps43
    go_wp2_with (first | (go_at_call 110; refine (may110 _ _ _).mono ?_; rintro e w1 ⟨rfl, hb1⟩; obtain ⟨f1, g1⟩ := bcell hb1; obtain ⟨y1, z1⟩ := bsize (w := w) 1 hb1 (by simp)))
    exact bodyPost_ret (v := .agg #[.int .i64 (8), .int .i64 (mK l k)]) (by simp [results, Try.results43, go_sem, *]) rfl ⟨retT rfl e1.out, (by repeat (first | exact Below.refl _ _ | refine Below.setCell ?_ (by simp) _ | refine Below.drew ?_ | refine B.trans ?_ (B.alloc' _ _) | refine B.trans ?_ hb1))⟩
  · have e1 := Lib.hid (show 8 = min (mK l k) 8 by omega)
    go_enter Try.func43, Try.ntmps43
    go_wp2_with (first | (go_at_call 110; refine (may110 _ _ _).mono ?_; rintro e w1 ⟨rfl, hb1⟩; obtain ⟨f1, g1⟩ := bcell hb1; obtain ⟨y1, z1⟩ := bsize (w := w) 1 hb1 (by simp)))
    exact bodyPost_ret (v := .agg #[.int .i64 (8), .int .i64 (8)]) (by simp [results, Try.results43, go_sem, *]) rfl ⟨retT rfl e1.out, (by repeat (first | exact Below.refl _ _ | refine Below.setCell ?_ (by simp) _ | refine Below.drew ?_ | refine B.trans ?_ (B.alloc' _ _) | refine B.trans ?_ hb1))⟩


set_option maxHeartbeats 400000 in
theorem calm44 (l k : Int) (w : World) : Calls Try.prog 44 #[.agg #[.int .i64 l, .int .i64 k]] w fun e w' => e = .returned (.agg #[.int .i64 (8), .int .i64 (min (mK l k) 8)]) ∧ B w w' := by
  have hm := mB l k
  by_cases h8 : mK l k ≤ 8
  · have e1 := Lib.hid (show mK l k = min (mK l k) 8 by omega)
    go_enter Try.func44, Try.ntmps44
    go_wp2_with (first | (go_at_call 111; refine (may111 _ _ _).mono ?_; rintro e w1 ⟨rfl, hb1⟩; obtain ⟨f1, g1⟩ := bcell hb1; obtain ⟨y1, z1⟩ := bsize (w := w) 1 hb1 (by simp)))
    exact bodyPost_ret (v := .agg #[.int .i64 (8), .int .i64 (mK l k)]) (by simp [results, Try.results44, go_sem, *]) rfl ⟨retT rfl e1.out, (by repeat (first | exact Below.refl _ _ | refine Below.setCell ?_ (by simp) _ | refine Below.drew ?_ | refine B.trans ?_ (B.alloc' _ _) | refine B.trans ?_ hb1))⟩
  · have e1 := Lib.hid (show 8 = min (mK l k) 8 by omega)
    go_enter Try.func44, Try.ntmps44
    go_wp2_with (first | (go_at_call 111; refine (may111 _ _ _).mono ?_; rintro e w1 ⟨rfl, hb1⟩; obtain ⟨f1, g1⟩ := bcell hb1; obtain ⟨y1, z1⟩ := bsize (w := w) 1 hb1 (by simp)))
    exact bodyPost_ret (v := .agg #[.int .i64 (8), .int .i64 (8)]) (by simp [results, Try.results44, go_sem, *]) rfl ⟨retT rfl e1.out, (by repeat (first | exact Below.refl _ _ | refine Below.setCell ?_ (by simp) _ | refine Below.drew ?_ | refine B.trans ?_ (B.alloc' _ _) | refine B.trans ?_ hb1))⟩


set_option maxRecDepth 10000 in
set_option maxHeartbeats 400000 in
theorem double42 (l k : Int) (w : World) : Calls Try.prog 42 #[.agg #[.int .i64 l, .int .i64 k]] w fun e w' => e = .returned (.agg #[.int .i64 (dL l k), .int .i64 (dL l k)]) ∧ B w w' := by
  have hm := mB l k
  by_cases h8 : 2 * mL l k ≤ 4096
  ·
    have e1 := Lib.hid (show (2 * mL l k : Int) = dL l k by unfold dL; omega)
    go_enter Try.func42, Try.ntmps42
    go_wp2_with (first | (go_at_call 111; refine (may111 _ _ _).mono ?_; rintro e w1 ⟨rfl, hb1⟩; obtain ⟨f1, g1⟩ := bcell hb1; obtain ⟨y1, z1⟩ := bsize (w := w) 1 hb1 (by simp)))
    exact bodyPost_ret (v := .agg #[.int .i64 (2 * mL l k), .int .i64 (2 * mL l k)]) (by simp [results, Try.results42, go_sem, *]) rfl ⟨retT e1.out e1.out, (by repeat (first | exact Below.refl _ _ | refine Below.setCell ?_ (by simp) _ | refine Below.drew ?_ | refine B.trans ?_ (B.alloc' _ _) | refine B.trans ?_ hb1))⟩
  ·
    have e1 := Lib.hid (show (4096 : Int) = dL l k by unfold dL; omega)
    go_enter Try.func42, Try.ntmps42
    go_wp2_with (first | (go_at_call 111; refine (may111 _ _ _).mono ?_; rintro e w1 ⟨rfl, hb1⟩; obtain ⟨f1, g1⟩ := bcell hb1; obtain ⟨y1, z1⟩ := bsize (w := w) 1 hb1 (by simp)))
    exact bodyPost_ret (v := .agg #[.int .i64 (4096), .int .i64 (4096)]) (by simp [results, Try.results42, go_sem, *]) rfl ⟨retT e1.out e1.out, (by repeat (first | exact Below.refl _ _ | refine Below.setCell ?_ (by simp) _ | refine Below.drew ?_ | refine B.trans ?_ (B.alloc' _ _) | refine B.trans ?_ hb1))⟩



set_option maxRecDepth 10000 in
set_option maxHeartbeats 400000 in
theorem double31 (l k : Int) (w : World) : Calls Try.prog 31 #[.agg #[.int .i64 l, .int .i64 k]] w fun e w' => e = .returned (.agg #[.int .i64 (dL l k), .int .i64 (dL l k)]) ∧ B w w' := by
  have hm := mB l k
  by_cases h8 : 2 * mL l k ≤ 4096
  ·
    have e1 : (2 * mL l k : Int) = dL l k := by unfold dL; omega
    have e2 := Lib.hid (show mL (2 * mL l k) (mK l k) = dL l k by rw [e1]; exact dM l k)
    clear e1
    go_enter Try.func31, Try.ntmps31
    go_wp2_with (first | (go_at_call 110; refine (may110 _ _ _).mono ?_; rintro e w1 ⟨rfl, hb1⟩; obtain ⟨f1, g1⟩ := bcell hb1; obtain ⟨y1, z1⟩ := bsize (w := w) 1 hb1 (by simp)) | (go_at_call 38; refine (again38 _ _ _).mono ?_; rintro e w2 ⟨rfl, hb2⟩; obtain ⟨f2, g2⟩ := bcell hb2; simp only [World.size_setCell] at f2 g2; have s2 := hb2.size; simp only [World.size_setCell] at s2; have y2 := Nat.lt_of_lt_of_le y1 s2; have z2 := Nat.lt_of_lt_of_le (z1 1 (by omega)) s2; clear s2))
    exact bodyPost_ret (v := .agg #[.int .i64 (mL (2 * mL l k) (mK l k)), .int .i64 (mL (2 * mL l k) (mK l k))]) (by simp [results, Try.results31, go_sem, *]) rfl ⟨retT e2.out e2.out, (by repeat (first | exact Below.refl _ _ | refine Below.setCell ?_ (by simp) _ | refine Below.drew ?_ | refine B.trans ?_ (B.alloc' _ _) | refine B.trans ?_ hb2 | refine B.trans ?_ hb1))⟩
  ·
    have e1 : (4096 : Int) = dL l k := by unfold dL; omega
    have e2 := Lib.hid (show mL (4096) (mK l k) = dL l k by rw [e1]; exact dM l k)
    clear e1
    go_enter Try.func31, Try.ntmps31
    go_wp2_with (first | (go_at_call 110; refine (may110 _ _ _).mono ?_; rintro e w1 ⟨rfl, hb1⟩; obtain ⟨f1, g1⟩ := bcell hb1; obtain ⟨y1, z1⟩ := bsize (w := w) 1 hb1 (by simp)) | (go_at_call 38; refine (again38 _ _ _).mono ?_; rintro e w2 ⟨rfl, hb2⟩; obtain ⟨f2, g2⟩ := bcell hb2; simp only [World.size_setCell] at f2 g2; have s2 := hb2.size; simp only [World.size_setCell] at s2; have y2 := Nat.lt_of_lt_of_le y1 s2; have z2 := Nat.lt_of_lt_of_le (z1 1 (by omega)) s2; clear s2))
    exact bodyPost_ret (v := .agg #[.int .i64 (mL (4096) (mK l k)), .int .i64 (mL (4096) (mK l k))]) (by simp [results, Try.results31, go_sem, *]) rfl ⟨retT e2.out e2.out, (by repeat (first | exact Below.refl _ _ | refine Below.setCell ?_ (by simp) _ | refine Below.drew ?_ | refine B.trans ?_ (B.alloc' _ _) | refine B.trans ?_ hb2 | refine B.trans ?_ hb1))⟩



end Go.Proofs.Ythgpkbhilkdckaa