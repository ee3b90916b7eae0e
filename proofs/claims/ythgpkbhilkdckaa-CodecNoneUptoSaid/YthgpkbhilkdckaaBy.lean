/- What bytes.Clone, slices.Clone, bytes.Equal and the reference's Same return. -/
import Derived.Test.YthgpkbhilkdckaaH2
import Derived.Test.YthgpkbhilkdckaaRows
namespace Go.Proofs.Ythgpkbhilkdckaa
open Go.RowKit
set_option linter.unusedVariables false

theorem info5 : (Try.prog.info? 5).map (fun i => (i.zero, i.size, i.bytes)) = some (some (.int .u8 0), 1, 1) := by kernel_rfl
/-- a fresh copy -/
def ClonePost (w : World) (bs : List UInt8) (e : Ending) (w' : World) : Prop := ∃ v', e = .returned v' ∧ w'.ownsRow w.heap.size 5 1 v' bs.length (cellsB bs) ∧ B w w'

set_option maxHeartbeats 400000 in
theorem clone89 {w : World} {v : Value} {bs : List UInt8} (h : Bs w v bs) : Calls Try.prog 89 #[v] w (ClonePost w bs) := by
  rcases h.isNil with ⟨rfl, rfl⟩ | ⟨ad, cap, rfl⟩
  · have q : ∀ w, (binOp .eql 47 (.slice none 0 0) (.slice none 0 0)).run Try.prog w = .ok (.bool true) w := fun w => by kernel_rfl
    have E := Lib.hid (show ClonePost w [] (.returned (.slice none 0 0)) w from ⟨_, rfl, ownNil w _ _ _, Below.refl _ _⟩)
    clear h
    go_enter Try.func89, Try.ntmps89
    go_wp2
    go_ret
    exact E.out
  · have q : ∀ w, (binOp .eql 47 (.slice (some ad) bs.length cap) (.slice none 0 0)).run Try.prog w = .ok (.bool false) w := fun w => by kernel_rfl
    have hb : B w (w.alloc (.cells #[] 5)) := B.alloc' _ _
    have ho : (w.alloc (.cells #[] 5)).ownsRow w.heap.size 5 1 (.slice (some ⟨w.heap.size, 0, none⟩) 0 0) ([] : List UInt8).length (cellsB []) := ⟨rfl, .inr ⟨_, 0, #[], rfl, Nat.le_refl _, heap_alloc_new w _, Nat.le_refl _, by unfold maxLen; omega, rfl, rfl⟩⟩
    obtain ⟨v', w', hrun, h2, h3, h4⟩ := append_Bs (P := Try.prog) (t := 47) (ty := 47) Try.underlying47 info5 ho (h.later hb) (by have := h.len; simpa using this) (by simp)
    have E := Lib.hid (show ClonePost w bs (.returned v') w' from ⟨_, rfl, h2, hb.grown h3 (fun k hk => by simp [Value.ownBlock] at hk; omega)⟩)
    clear h ho h2 h3 h4 hb
    go_enter Try.func89, Try.ntmps89
    go_wp2_with (at_builtin; refine wpList_append_run rfl (.tmp 5) (.tmp 6) 47 rfl rfl rfl hrun ?_)
    go_ret
    exact E.out

set_option maxHeartbeats 400000 in
theorem clone63 {w : World} {v : Value} {bs : List UInt8} (h : Bs w v bs) : Calls Try.prog 63 #[v] w (ClonePost w bs) := by
  rcases h.isNil with ⟨rfl, rfl⟩ | ⟨ad, cap, rfl⟩
  · have q : ∀ w, (binOp .eql 47 (.slice none 0 0) (.slice none 0 0)).run Try.prog w = .ok (.bool true) w := fun w => by kernel_rfl
    have E := Lib.hid (show ClonePost w [] (.returned (.slice none 0 0)) w from ⟨_, rfl, ownNil w _ _ _, Below.refl _ _⟩)
    clear h
    go_enter Try.func63, Try.ntmps63
    go_wp2
    go_ret
    exact E.out
  · have q : ∀ w, (binOp .eql 47 (.slice (some ad) bs.length cap) (.slice none 0 0)).run Try.prog w = .ok (.bool false) w := fun w => by kernel_rfl
    have hb : B w (w.alloc (.cells #[] 5)) := B.alloc' _ _
    have ho : (w.alloc (.cells #[] 5)).ownsRow w.heap.size 5 1 (.slice (some ⟨w.heap.size, 0, none⟩) 0 0) ([] : List UInt8).length (cellsB []) := ⟨rfl, .inr ⟨_, 0, #[], rfl, Nat.le_refl _, heap_alloc_new w _, Nat.le_refl _, by unfold maxLen; omega, rfl, rfl⟩⟩
    obtain ⟨v', w', hrun, h2, h3, h4⟩ := append_Bs (P := Try.prog) (t := 47) (ty := 47) Try.underlying47 info5 ho (h.later hb) (by have := h.len; simpa using this) (by simp)
    have E := Lib.hid (show ClonePost w bs (.returned v') w' from ⟨_, rfl, h2, hb.grown h3 (fun k hk => by simp [Value.ownBlock] at hk; omega)⟩)
    clear h ho h2 h3 h4 hb
    go_enter Try.func63, Try.ntmps63
    go_wp2_with (at_builtin; refine wpList_append_run rfl (.tmp 5) (.tmp 6) 47 rfl rfl rfl hrun ?_)
    go_ret
    exact E.out

set_option maxHeartbeats 400000 in
theorem equal68 {w : World} {v u : Value} {a b : List UInt8} (h : Bs w v a) (k : Bs w u b) : Calls Try.prog 68 #[v, u] w fun e w' => e = .returned (.bool (a == b)) ∧ w = w' := by
  have h1 := h.conv (P := Try.prog) (src := 47) (dst := 9) Try.underlying47 Try.underlying5 Try.underlying9
  have h2 := k.conv (P := Try.prog) (src := 47) (dst := 9) Try.underlying47 Try.underlying5 Try.underlying9
  clear h k
  go_enter Try.func68, Try.ntmps68
  go_wp2
  go_ret
  exact ⟨by simp [bstr_toList], rfl⟩

set_option maxHeartbeats 400000 in
theorem same112 {w : World} {v u : Value} {a b : List UInt8} (h : Bs w v a) (k : Bs w u b) : Calls Try.prog 112 #[v, u] w fun e w' => e = .returned (.bool (a == b)) ∧ w = w' := by
  have h1 := h.conv (P := Try.prog) (src := 47) (dst := 9) Try.underlying47 Try.underlying5 Try.underlying9
  have h2 := k.conv (P := Try.prog) (src := 47) (dst := 9) Try.underlying47 Try.underlying5 Try.underlying9
  clear h k
  go_enter Try.func112, Try.ntmps112
  go_wp2
  go_ret
  exact ⟨by simp [bstr_toList], rfl⟩

end Go.Proofs.Ythgpkbhilkdckaa
