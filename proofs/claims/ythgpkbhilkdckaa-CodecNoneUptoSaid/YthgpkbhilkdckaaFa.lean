/- A reader that no call made: what its methods return. -/
import Derived.Test.YthgpkbhilkdckaaDf
namespace Go.Proofs.Ythgpkbhilkdckaa
open Go.RowKit
set_option linter.unusedVariables false

/-- nil, or a struct that no call made -/
def NoRd (w : World) (v : Value) : Prop := v = .pointer none ∨ ∃ p, v = .pointer (some ⟨p, 0, none⟩) ∧ Blk w p 94 #[.slice none 0 0, .int .i64 0, .bool false]
theorem NoRd.later {w w' : World} {v : Value} (h : NoRd w v) (hb : B w w') : NoRd w' v := by
  rcases h with h | ⟨p, h, hk⟩
  · exact .inl h
  · exact .inr ⟨p, h, hk.later hb⟩

theorem stuck122n {w : World} {v : Value} (h : NoRd w v) : Calls Try.prog 122 #[v] w fun e w' => e = .returned (.bool true) ∧ w = w' := by
  rcases h with rfl | ⟨p, rfl, hk⟩
  · go_enter Try.func122, Try.ntmps122
    go_wp2
    go_ret
    exact ⟨rfl, rfl⟩
  · have c0 := hk.cell 0
    have c1 := hk.cell 1
    have c2 := hk.cell 2
    simp at c0 c1 c2
    clear hk
    go_enter Try.func122, Try.ntmps122
    go_wp2
    go_ret
    exact ⟨rfl, rfl⟩

theorem err80n {w : World} {v : Value} (h : NoRd w v) : Calls Try.prog 80 #[v] w fun e w' => e = .returned (.int .i64 2) ∧ w = w' := by
  rcases h with rfl | ⟨p, rfl, hk⟩
  · go_enter Try.func80, Try.ntmps80
    go_wp2
    go_ret
    exact ⟨rfl, rfl⟩
  · have c0 := hk.cell 0
    have c1 := hk.cell 1
    have c2 := hk.cell 2
    simp at c0 c1 c2
    clear hk
    go_enter Try.func80, Try.ntmps80
    go_wp2
    go_ret
    exact ⟨rfl, rfl⟩

theorem fail84n {w : World} {v : Value} (h : NoRd w v) (k : Int) : Calls Try.prog 84 #[v, .int .i64 k] w fun e w' => e = .returned (.tuple #[]) ∧ w = w' := by
  have H := Lib.hid h
  clear h
  go_enter Try.func84, Try.ntmps84
  go_wp2_with (first
    | (go_at_call 122; (with_reducible refine (stuck122n H.out).mono ?_); rintro e wn ⟨rfl, rfl⟩))
  go_end0
  exact ⟨rfl, rfl⟩

theorem num85n {w : World} {v : Value} (h : NoRd w v) (m : Int) : Calls Try.prog 85 #[v, .int .u64 m] w fun e w' => e = .returned (.int .u64 0) ∧ w = w' := by
  have H := Lib.hid h
  clear h
  go_enter Try.func85, Try.ntmps85
  go_wp2_with (first
    | (go_at_call 122; (with_reducible refine (stuck122n H.out).mono ?_); rintro e wn ⟨rfl, rfl⟩))
  go_ret
  exact ⟨rfl, rfl⟩

theorem take86n {w : World} {v : Value} (h : NoRd w v)  : Calls Try.prog 86 #[v, .int .i64 0] w fun e w' => e = .returned (.slice none 0 0) ∧ w = w' := by
  have H := Lib.hid h
  clear h
  go_enter Try.func86, Try.ntmps86
  go_wp2_with (first
    | (go_at_call 122; (with_reducible refine (stuck122n H.out).mono ?_); rintro e wn ⟨rfl, rfl⟩))
  go_ret
  exact ⟨rfl, rfl⟩

theorem bytes87n {w : World} {v : Value} (h : NoRd w v)  : Calls Try.prog 87 #[v, .int .i64 1] w fun e w' => e = .returned (.slice none 0 0) ∧ w = w' := by
  have H := Lib.hid h
  clear h
  go_enter Try.func87, Try.ntmps87
  go_wp2_with (first
    | (go_at_call 85; (with_reducible refine (num85n H.out _).mono ?_); rintro e wn ⟨rfl, rfl⟩)
    | (go_at_call 86; (with_reducible refine (take86n H.out).mono ?_); rintro e wn ⟨rfl, rfl⟩))
  go_ret
  exact ⟨rfl, rfl⟩

theorem list88n {w : World} {v : Value} (h : NoRd w v) : Calls Try.prog 88 #[v, .int .i64 1, .int .i64 1] w fun e w' => e = .returned (.slice none 0 0) ∧ w = w' := by
  have H := Lib.hid h
  clear h
  go_enter Try.func88, Try.ntmps88
  go_wp2_with (first
    | (go_at_call 85; (with_reducible refine (num85n H.out _).mono ?_); rintro e wn ⟨rfl, rfl⟩))
  go_loop [8, 16] (fun l i => l = .slice none 0 0 ∧ i = .int .u64 0) (fun _ i => 0)
  case atStart => exact ⟨rfl, rfl⟩
  case round =>
    obtain ⟨rfl, rfl⟩ := hrel
    go_wp2_with fail
    go_ret
    exact ⟨rfl, rfl⟩

theorem left81n {w : World} {v : Value} (h : NoRd w v)  : Calls Try.prog 81 #[v] w fun e w' => e = .returned (.int .i64 0) ∧ w = w' := by
  have H := Lib.hid h
  clear h
  go_enter Try.func81, Try.ntmps81
  go_wp2_with (first
    | (go_at_call 122; (with_reducible refine (stuck122n H.out).mono ?_); rintro e wn ⟨rfl, rfl⟩))
  go_ret
  exact ⟨rfl, rfl⟩

theorem done82n {w : World} {v : Value} (h : NoRd w v)  : Calls Try.prog 82 #[v] w fun e w' => e = .returned (.int .i64 2) ∧ w = w' := by
  have H := Lib.hid h
  clear h
  go_enter Try.func82, Try.ntmps82
  go_wp2_with (first
    | (go_at_call 80; (with_reducible refine (err80n H.out).mono ?_); rintro e wn ⟨rfl, rfl⟩))
  go_ret
  exact ⟨rfl, rfl⟩
end Go.Proofs.Ythgpkbhilkdckaa
