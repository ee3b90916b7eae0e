/- Lemmas and contracts, part 25. -/
import Derived.Test.YtafomdobfmmleaaGreatDoorZb24
import Derived.Test.YtafomdobfmmleaaGreatDoorCards
import Derived.Test.YtafomdobfmmleaaGreatDoorTie
import Derived.Deep.DeepHandedRow
import Derived.Lib.LaidIn
import Derived.Lib.LaidTab
import Derived.LaidSub
import Derived.MakeChecks
/- The library's tables and errors, out of what a row lays. -/
namespace Go.Proofs.YtafomdobfmmleaaGreatDoor
open Go.ChangeShapes Go.WideShapes Go.ChangeAt Go.RowKit Go.Deep
set_option linter.unusedVariables false

theorem iface_of_trod {H : Type} {enc : TypeId × Value → H} {P : Program} {w : World} {base : Nat} {sp : Nat → Bool} {fuel : Nat} {t : TypeId} {cs : List Value} {name : String} {d : DataW H} {p : List MemPlace} {x : TypeDesc}
    (ht : P.underlying t = some x) (hx : ∃ y, x = .interface y) (h : DataW.trod enc P w base sp false fuel t cs = some (.iface name d, p)) : ∃ u v, cs = [.iface u v] := by
  obtain ⟨y, rfl⟩ := hx
  cases fuel with
  | zero => simp [DataW.trod] at h
  | succ fuel =>
    simp only [DataW.trod, ht] at h
    match cs, h with
    | [.iface u v], _ => exact ⟨u, v, rfl⟩
    | [.nilIface], h => simp at h
theorem laid_iface {P : Program} {W : World} {n name : String} {d : DataW Unit} {g : Nat} {t : TypeId} {x : TypeDesc} (hg : P.globalNamed n = some g) (hty : (P.globals[g]?).map (·.type) = some t) (ht : P.underlying t = some x) (hx : ∃ y, x = .interface y) (h : laidMet P [(n, .iface name d)] W) : ∃ u v, W.var? P n = some #[.iface u v] := by
  obtain ⟨ps, ⟨g', t', cs, fuel, p, q, e1, e2, e3, e4, _⟩, _⟩ := h
  rw [hg] at e1
  injection e1 with e1
  subst e1
  rw [hty] at e2
  injection e2 with e2
  subst e2
  obtain ⟨u, v, e⟩ := iface_of_trod ht hx e4
  refine ⟨u, v, ?_⟩
  rw [e3]
  congr 1
  apply Array.ext'
  exact e
theorem scrW_of_laid {I : Nat → Prop} {W : World} (h : laidMetH Tryz.prog Rows.scriptSetupsRow.laid W) (hs : W.ShapedOpen Tryz.prog) (i1 : I gPw) (i2 : I gSyn) (i3 : I gRng) (i4 : I gMax) : ScrW I W := by
  rw [MakeChecks.laidMetH_plain _ _ _ (by kernel_rfl)] at h
  refine ⟨i1, ?_, i2, ?_, i3, ?_, i4, Tryz.laysM146.s1_3 W hs⟩
  · have h1 := h.filter (fun x => x.1 == "internal/strconv.uint64pow10")
    have e : Rows.scriptSetupsRow.laid.filter (fun x => x.1 == "internal/strconv.uint64pow10") = [("internal/strconv.uint64pow10", Lib.tabData .u64 Lib.pow10Tab)] := by kernel_rfl
    rw [e] at h1
    exact Lib.tabIs_of_head (g := gPw) (t := 308) (e := 125) (n := 20) (by kernel_rfl) (by kernel_rfl) Tryz.underlying308 Tryz.underlying125 (by kernel_rfl) (by kernel_rfl) h1
  · have h1 := h.filter (fun x => x.1 == "strconv.ErrSyntax")
    have e : Rows.scriptSetupsRow.laid.filter (fun x => x.1 == "strconv.ErrSyntax") = [("strconv.ErrSyntax", Rows.laid_strconv_ErrSyntax)] := by kernel_rfl
    rw [e] at h1
    exact laid_iface (g := gSyn) (t := 116) (by kernel_rfl) (by kernel_rfl) Tryz.underlying116 ⟨_, rfl⟩ h1
  · have h1 := h.filter (fun x => x.1 == "strconv.ErrRange")
    have e : Rows.scriptSetupsRow.laid.filter (fun x => x.1 == "strconv.ErrRange") = [("strconv.ErrRange", Rows.laid_strconv_ErrRange)] := by kernel_rfl
    rw [e] at h1
    exact laid_iface (g := gRng) (t := 116) (by kernel_rfl) (by kernel_rfl) Tryz.underlying116 ⟨_, rfl⟩ h1
end Go.Proofs.YtafomdobfmmleaaGreatDoor

/- bullalaw27.ScriptSetups over readings. -/
namespace Go.Proofs.YtafomdobfmmleaaGreatDoor
open Go.RowKit
set_option linter.unusedVariables false

/-- the library's tables are laid, whatever is readable -/
def ScrT (w : World) : Prop := ∀ I : Nat → Prop, I gPw → I gSyn → I gRng → I gMax → ScrW I w
theorem var_lt {n : String} {g : Nat} {w : World} {x : Array Value} (hg : Tryz.prog.globalNamed n = some g) (h : w.var? Tryz.prog n = some x) : g < w.heap.size := by
  unfold World.var? at h
  rw [hg] at h
  simp only [Option.bind_some] at h
  rcases Nat.lt_or_ge g w.heap.size with k | k
  · exact k
  · rw [Array.getElem?_eq_none k] at h; simp at h
theorem cell_lt {g : Nat} {w : World} {x : Value} (h : w.cell? ⟨g, 0, none⟩ = some x) : g < w.heap.size := by
  unfold World.cell? at h
  rcases Nat.lt_or_ge g w.heap.size with k | k
  · exact k
  · simp only [Array.getElem?_eq_none k] at h; simp at h
theorem ScrT.lt {w : World} (h : ScrT w) {I : Nat → Prop} (i1 : I gPw) (i2 : I gSyn) (i3 : I gRng) (i4 : I gMax) : ScrW (fun b => I b ∧ b < w.heap.size) w := by
  have k := h (fun _ => True) trivial trivial trivial trivial
  obtain ⟨_, _, e2⟩ := k.synT
  obtain ⟨_, _, e3⟩ := k.rngT
  obtain ⟨_, e4⟩ := k.maxT
  exact h _ ⟨i1, var_lt gPw_e k.powT⟩ ⟨i2, var_lt gSyn_e e2⟩ ⟨i3, var_lt gRng_e e3⟩ ⟨i4, cell_lt e4⟩
theorem setups_c {n0 n1 n2 : Nat → Prop} {w : World} {c0 : List Value} {v1 v2 : Value} {s : SetupD} {l b : List UInt8} (hT : ScrT w) (r0 : tSetup.rd n0 w c0 s) (r1 : tS.rd n1 w [v1] l) (r2 : tY.rd n2 w [v2] b) :
    Calls Tryz.prog 3 #[.agg c0.toArray, v1, v2] w fun r w' => r = .returned (.bool true) ∧ B w w' := by
  have h0 : tSetup.rd (fun g => n0 g ∨ n1 g ∨ n2 g ∨ g = gPw ∨ g = gSyn ∨ g = gRng ∨ g = gMax) w c0 s := tSetup.mono r0 (fun _ h => .inl h)
  have h1 : tS.rd (fun g => n0 g ∨ n1 g ∨ n2 g ∨ g = gPw ∨ g = gSyn ∨ g = gRng ∨ g = gMax) w [v1] l := tS.mono r1 (fun _ h => .inr (.inl h))
  have h2 : tY.rd (fun g => n0 g ∨ n1 g ∨ n2 g ∨ g = gPw ∨ g = gSyn ∨ g = gRng ∨ g = gMax) w [v2] b := tY.mono r2 (fun _ h => .inr (.inr (.inl h)))
  have k0 := @LkSetup scrWd0.toOld
  have k1 := @LkS scrWd0.toOld
  have k2 := @LkY scrWd0.toOld
  have hd := ((k0.arg h0).append (k1.to h1).1).append (k2.to h2).1
  exact @FnP.callsBool scrWd0 (@NoPan.mk scrWd0 (fun _ h => h.1)) _ _ _ _ (setups_s s (k0.to h0).2.1 l b (k1.to h1).2.1 (k2.to h2).2.1) _ w [.agg c0.toArray, v1, v2] hd (hT.lt (by simp) (by simp) (by simp) (by simp))
end Go.Proofs.YtafomdobfmmleaaGreatDoor
