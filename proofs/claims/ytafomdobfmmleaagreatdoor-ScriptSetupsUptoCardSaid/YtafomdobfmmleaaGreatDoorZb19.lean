/- Lemmas and contracts, part 19. -/
import Derived.Test.YtafomdobfmmleaaGreatDoorZb18
import Derived.Defers
import Derived.Recover
import Derived.Laws.Pointers
/- script.caught: what a closure that may say 'wrong' does, over data; the tables that a script's parsing reads. -/
namespace Go.Proofs.YtafomdobfmmleaaGreatDoor
open Go.RowKit
set_option linter.unusedVariables false
set_option linter.unusedSimpArgs false
set_option maxRecDepth 100000

theorem catch_idle (p : Addr) (w : World) :
    CallsD Tryz.prog 63 #[.pointer (some p)] .returning w fun e u' w' => e = .returned (.tuple #[]) ∧ u' = .returning ∧ w' = w := by
  refine callsD_of_wpS Tryz.func63 rfl fun c₀ cs hu => ?_
  apply wpS_seq
  apply wpS_region
  simp [wpOpsS, go_sem, recoverD, hu, Tryz.ntmps63, Exit.thenS]
  apply wpS_seq
  apply wpS_seq
  apply wpS_region
  simp [wpOpsS, go_sem, recoverD, hu, Exit.thenS]
  refine wpS_cond (t := true) (by simp [Act.eval, Act.put, Array.replicate]) ?_
  simp only [if_true]
  refine wpS_of_wp (wp_ret ?_)
  cases c₀
  simp_all [bodyPostS, results, Tryz.results63, Exit.thenS, Act.put]
theorem tA (w : World) : (Instr.typeAssert (.iface 122 (.agg #[])) 20 122 true).run Tryz.prog w = .ok (.tuple #[.agg #[], .bool true]) w := by rfl
theorem catch_panicking (p : Addr) (older : List PanicEntry) (w : World) (hc : (w.alloc (.cells #[] 122)).cell? p = some (.bool false)) (hz : (w.alloc (.cells #[] 122)).frozen? p = false) :
    CallsD Tryz.prog 63 #[.pointer (some p)] (.panicking ({ v := .iface 122 (.agg #[]), recovered := false } :: older)) w fun e u' w' =>
      e = .returned (.tuple #[]) ∧ u' = .panicking ({ v := .iface 122 (.agg #[]), recovered := true } :: older) ∧ w' = (w.alloc (.cells #[] 122)).setCell p (.bool false) := by
  refine callsD_of_wpS Tryz.func63 rfl fun c₀ cs hu => ?_
  apply wpS_seq
  apply wpS_region
  simp [wpOpsS, go_sem, recoverD, hu, Tryz.ntmps63, Exit.thenS]
  apply wpS_seq
  apply wpS_seq
  apply wpS_region
  simp [wpOpsS, go_sem, recoverD, hu, Exit.thenS]
  refine wpS_cond (t := false) (by simp [Act.eval, Act.put, Array.replicate]) ?_
  simp only [Bool.false_eq_true, if_false]
  refine wpS_of_wp (wp_skip ?_)
  simp only [Exit.thenS]
  apply wpS_seq
  apply wpS_seq
  apply wpS_region
  simp [wpOpsS, go_sem, Exit.thenS, tA]
  apply wpS_seq
  apply wpS_region
  simp [wpOpsS, go_sem, Exit.thenS]
  refine wpS_cond (t := false) (by simp [Act.eval, Act.put, Array.replicate]) ?_
  simp only [Bool.false_eq_true, if_false]
  refine wpS_of_wp (wp_skip ?_)
  simp only [Exit.thenS]
  apply wpS_region
  simp [wpOpsS, go_sem, hc, hz, bodyPostS, results, Tryz.results63]
theorem caught_w [Wd] {w : World} {F : FuncId} {a b : Array Value} {Y N : World → Prop}
    (hcal : calleeOk Tryz.prog F = true) (HF : Calls Tryz.prog F (a ++ b) (w.alloc (.cells #[.bool false] 4)) fun e w2 => w2.heap[w.heap.size]? = some (.cells #[.bool false] 4 (0, 0)) ∧ ((∃ v, e = .returned v ∧ Y w2) ∨ (e = .panicked [{ v := .iface 122 (.agg #[]), recovered := false }] ∧ N w2))) :
    Calls Tryz.prog 32 #[.func (.func F) a b] w fun e w' => (e = .returned (.bool true) ∧ ∃ w2, Y w2 ∧ w2.heap[w.heap.size]? = some (.cells #[.bool false] 4 (0, 0)) ∧ w' = w2.setCell ⟨w.heap.size, 0, none⟩ (.bool true)) ∨ (e = .returned (.bool false) ∧ ∃ w2, N w2 ∧ w2.heap[w.heap.size]? = some (.cells #[.bool false] 4 (0, 0)) ∧ w' = (w2.alloc (.cells #[] 122)).setCell ⟨w.heap.size, 0, none⟩ (.bool false)) := by
  have hmf : ∀ (fn : Fn) (first cap : Array Value) (w : World), (Instr.makeFunc fn first cap).run Tryz.prog w = .ok (.func fn first cap) w := fun _ _ _ _ => rfl
  go_enter_defers Tryz.func32, Tryz.ntmps32
  go_wp2
  rw [callFunc_run hcal, Oper.upon_enter]
  refine HF.mono ?_
  rintro e w2 ⟨hk, ⟨v, rfl, hY⟩ | ⟨rfl, hN⟩⟩
  · have hc : w2.cell? ⟨w.heap.size, 0, none⟩ = some (.bool false) := by simp [World.cell?, hk]
    have hz : w2.frozen? ⟨w.heap.size, 0, none⟩ = false := by simp [World.frozen?, hk]
    go_wp2
    refine leaves_cons (f := 63) (args := #[.pointer (some ⟨w.heap.size, 0, none⟩)]) (by simp) (by simp [go_sem]) ?_
    refine (catch_idle ⟨w.heap.size, 0, none⟩ _).mono ?_
    rintro e u' w'' ⟨rfl, rfl, rfl⟩
    simp [Leaves, settle, results, Tryz.results32, go_sem, hc]
    exact ⟨w2, hY, hk, rfl⟩
  · have hlt : w.heap.size < w2.heap.size := by
      rcases Nat.lt_or_ge w.heap.size w2.heap.size with h | h
      · exact h
      · rw [Array.getElem?_eq_none h] at hk; cases hk
    have hk2 : (w2.alloc (.cells #[] 122)).heap[w.heap.size]? = some (.cells #[.bool false] 4 (0, 0)) := by
      rw [← hk]; exact Array.getElem?_push_lt hlt |>.trans (Array.getElem?_eq_getElem hlt).symm
    have hc : (w2.alloc (.cells #[] 122)).cell? ⟨w.heap.size, 0, none⟩ = some (.bool false) := by simp only [World.cell?, hk2]; rfl
    have hz : (w2.alloc (.cells #[] 122)).frozen? ⟨w.heap.size, 0, none⟩ = false := by simp [World.frozen?, hk2]
    show Leaves Tryz.prog Tryz.f32 _ _ _ _ _
    refine leaves_cons (f := 63) (args := #[.pointer (some ⟨w.heap.size, 0, none⟩)]) (by simp) (by simp [go_sem]) ?_
    refine (catch_panicking ⟨w.heap.size, 0, none⟩ [] _ hc hz).mono ?_
    rintro e u' w'' ⟨rfl, rfl, rfl⟩
    simp [Leaves, settle, results, Tryz.results32, go_sem, hc]
    exact ⟨w2, hN, hk, rfl⟩
/-- that a line says nothing -/
def wrongCh : List PanicEntry := [{ v := .iface 122 (.agg #[]), recovered := false }]
theorem var_at {s : String} {k : Nat} (hg : Tryz.prog.globalNamed s = some k) {w w' : World} (h : w'.heap[k]? = w.heap[k]?) : w'.var? Tryz.prog s = w.var? Tryz.prog s := by
  unfold World.var?
  rw [hg]
  simp only [Option.bind_some]
  rw [h]
def gPw : Nat := 3
def gSyn : Nat := 1
def gRng : Nat := 2
def gMax : Nat := 0
theorem gPw_e : Tryz.prog.globalNamed "internal/strconv.uint64pow10" = some gPw := by kernel_rfl
theorem gSyn_e : Tryz.prog.globalNamed "strconv.ErrSyntax" = some gSyn := by kernel_rfl
theorem gRng_e : Tryz.prog.globalNamed "strconv.ErrRange" = some gRng := by kernel_rfl
/-- what the library has laid for numbers and words; read alone -/
structure ScrW (I : Nat → Prop) (w : World) : Prop where
  pow : I gPw
  powT : Lib.TabIs Tryz.prog w "internal/strconv.uint64pow10" .u64 Lib.pow10Tab
  syn : I gSyn
  synT : ∃ tp p, w.var? Tryz.prog "strconv.ErrSyntax" = some #[.iface tp p]
  rng : I gRng
  rngT : ∃ tp p, w.var? Tryz.prog "strconv.ErrRange" = some #[.iface tp p]
  max : I gMax
  maxT : ∃ m, w.cell? ⟨gMax, 0, none⟩ = some (.int .i64 m)
theorem ScrW.cl {I I' : Nat → Prop} {w w' : World} (h : ScrW I w) (hb : ∀ b, I b → w'.heap[b]? = w.heap[b]?) (hI : ∀ b, I b → I' b) : ScrW I' w' where
  pow := hI _ h.pow
  powT := by
    have := h.powT
    unfold Lib.TabIs at this ⊢
    rw [var_at gPw_e (hb _ h.pow)]
    exact this
  syn := hI _ h.syn
  synT := by rw [var_at gSyn_e (hb _ h.syn)]; exact h.synT
  rng := hI _ h.rng
  rngT := by rw [var_at gRng_e (hb _ h.rng)]; exact h.rngT
  max := hI _ h.max
  maxT := by
    obtain ⟨m, hm⟩ := h.maxT
    exact ⟨m, by rw [← hm]; unfold World.cell?; simp only; rw [hb _ h.max]⟩
/-- 'wrong' may come where p holds -/
abbrev scrWdP (p : Prop) : Wd where
  A := fun _ => False
  aI := fun _ _ h => h.elim
  pan := fun ch => p ∧ ch = wrongCh
  W := ScrW
  cl := ScrW.cl
/-- nothing panics -/
abbrev scrWd0 : Wd := scrWdP False
/-- objects are given up -/
def goneIn : List Nat → List AO → List AO
  | [], h => h
  | o :: M, h => goneIn M (h.set o .gone)
theorem goneIn_at : ∀ (M : List Nat) (h : List AO) (o : Nat), (goneIn M h)[o]? = if o ∈ M ∧ o < h.length then some .gone else h[o]?
  | [], h, o => by simp [goneIn]
  | p :: M, h, o => by
    rw [goneIn, goneIn_at M, List.length_set, List.getElem?_set]
    by_cases h1 : o ∈ M ∧ o < h.length
    · rw [if_pos h1, if_pos ⟨List.mem_cons_of_mem _ h1.1, h1.2⟩]
    · rw [if_neg h1]
      by_cases h2 : p = o
      · subst h2
        rw [if_pos rfl]
        by_cases h3 : p < h.length
        · rw [if_pos h3, if_pos ⟨List.mem_cons_self, h3⟩]
        · rw [if_neg h3, if_neg (fun k => h3 k.2), List.getElem?_eq_none (by omega)]
      · rw [if_neg h2, if_neg]
        rintro ⟨k1, k2⟩
        rcases List.mem_cons.1 k1 with k | k
        · exact h2 k.symm
        · exact h1 ⟨k, k2⟩
theorem goneIn_len : ∀ (M : List Nat) (h : List AO), (goneIn M h).length = h.length
  | [], h => rfl
  | p :: M, h => by rw [goneIn, goneIn_len M, List.length_set]
section
variable [Old]
theorem Den.goneIn {I : Nat → Prop} {g : Ghost} {w : World} : ∀ (M : List Nat) {h : List AO}, Den I g w h → Den I g w (goneIn M h)
  | [], _, hd => hd
  | o :: M, _, hd => Den.goneIn M (hd.drop o)
end
theorem goneIn_own {M : List Nat} {h : List AO} {o : Nat} {ao : AO} {p : Option Nat × Value} {b : Nat} (h1 : (goneIn M h)[o]? = some ao) (h2 : ao.owns p b) : o ∉ M ∧ h[o]? = some ao := by
  rw [goneIn_at] at h1
  by_cases hc : o ∈ M ∧ o < h.length
  · rw [if_pos hc] at h1
    injection h1 with e
    subst e
    exact h2.elim
  · rw [if_neg hc] at h1
    exact ⟨fun hm => hc ⟨hm, (List.getElem?_eq_some_iff.1 h1).1⟩, h1⟩
theorem caught_s {q : Prop} {F : FuncId} {n : Nat} {caps : List D} {h : List AO} {M : List Nat} {Post : D → List AO → Prop} (hF : @FnB (scrWdP q) Tryz.prog F caps h M Post) :
    @FnB scrWd0 Tryz.prog 32 [.fn F n caps] h M (fun r h' => (r = .bool true ∧ ∃ r0, Post r0 h') ∨ (r = .bool false ∧ q ∧ h' = goneIn M h)) := by
  refine ⟨by kernel_rfl, fun w I g vs hW hd ha => ?_⟩
  obtain ⟨v, vs', rfl, h1, h2⟩ := ha.uncons
  obtain rfl := h2.nil_inv
  obtain ⟨us, rfl, hus⟩ := h1.fn_inv
  have hb : B w (w.alloc (.cells #[.bool false] 4)) := B.alloc' _ _
  have hd1 := hd.later hb
  have hv1 := hus.ext (Ext.of_B hb (own := fun _ => False)) (fun _ _ => id)
  have hW1 : ScrW I (w.alloc (.cells #[.bool false] 4)) := ScrW.cl hW (fun b hI => hb.block b (hd.inn b hI)) (fun _ k => k)
  have hsz : (w.alloc (.cells #[.bool false] 4)).heap.size = w.heap.size + 1 := Array.size_push _
  have hat : (w.alloc (.cells #[.bool false] 4)).heap[w.heap.size]? = some (.cells #[.bool false] 4 (0, 0)) := by
    show (w.heap.push _)[w.heap.size]? = _
    rw [Array.getElem?_push_size]
  have hno : ∀ b, OwnedIn M g h b → b < w.heap.size := fun b k => hd.lt k.owned
  have HC := hF.2 _ I g us hW1 hd1 hv1
  have hcat : us.toArray = (us.take n).toArray ++ (us.drop n).toArray := by simp
  rw [hcat] at HC
  refine (@caught_w scrWd0 w F _ _ (fun w2 => ∃ r I' g' h', Post r h' ∧ @Af scrWd0.toOld I g (w.alloc (.cells #[.bool false] 4)) h M I' g' w2 h') (fun w2 => q ∧ Ext (OwnedIn M g h) (w.alloc (.cells #[.bool false] 4)) w2) hF.1 (HC.mono ?_)).mono ?_
  · rintro e w2 (⟨v, I', g', r, h', rfl, hp, haf, hv⟩ | ⟨ch, rfl, hp, hx⟩)
    · exact ⟨by rw [haf.ext.block _ (by rw [hsz]; omega) (fun k => by have := hno _ k; omega)]; exact hat, .inl ⟨v, rfl, r, I', g', h', hp, haf⟩⟩
    · obtain ⟨hq, rfl⟩ := hp
      exact ⟨by rw [hx.block _ (by rw [hsz]; omega) (fun k => by have := hno _ k; omega)]; exact hat, .inr ⟨rfl, hq, hx⟩⟩
  · rintro e w' (⟨rfl, w2, ⟨r, I', g', h', hp, haf⟩, hk, rfl⟩ | ⟨rfl, w2, ⟨hq, hx⟩, hk, rfl⟩)
    · have hs : Ext (fun b => b = w.heap.size) w2 (w2.setCell ⟨w.heap.size, 0, none⟩ (.bool true)) := Ext.set (own := fun b => b = w.heap.size) (p := ⟨w.heap.size, 0, none⟩) (Ext.refl _ w2) (fun _ => rfl) _
      have hi : ∀ b, I' b → ¬ b = w.heap.size := by
        rintro b k rfl
        rcases haf.i2 _ k with k | k | k
        · exact Nat.lt_irrefl _ (hd.inn _ k)
        · exact Nat.lt_irrefl _ (hno _ k)
        · omega
      have ho : ∀ b, Owned g' h' b → ¬ b = w.heap.size := by
        rintro b k rfl
        rcases haf.ow hd.len _ k with k | k
        · exact Nat.lt_irrefl _ (hd.lt k)
        · omega
      refine .inl ⟨_, I', g', .bool true, h', rfl, .inl ⟨rfl, r, hp⟩, ⟨haf.den.ext hs hi ho, ?_, haf.i1, fun b k => ?_, haf.gx, haf.fr, haf.al, fun o ao' p b k1 k2 k3 k4 => ?_⟩, .rd (.bool true)⟩
      · exact (Ext.of_B hb).trans_ (haf.ext.mono (fun _ _ k => k)) |>.trans hs (fun x hx e => by omega)
      · rcases haf.i2 b k with k | k | k
        · exact .inl k
        · exact .inr (.inl k)
        · exact .inr (.inr (by omega))
      · rcases haf.nw o ao' p b k1 k2 k3 k4 with k | k
        · exact .inl k
        · exact .inr (by omega)
    · have hs : Ext (fun b => b = w.heap.size) w2 ((w2.alloc (.cells #[] 122)).setCell ⟨w.heap.size, 0, none⟩ (.bool false)) := Ext.set (own := fun b => b = w.heap.size) (p := ⟨w.heap.size, 0, none⟩) ((Ext.refl _ w2).alloc _) (fun _ => rfl) _
      have hx2 : Ext (OwnedIn M g h) w ((w2.alloc (.cells #[] 122)).setCell ⟨w.heap.size, 0, none⟩ (.bool false)) :=
        (Ext.of_B hb).trans_ (hx.mono (fun _ _ k => k)) |>.trans hs (fun x hx e => by omega)
      refine .inl ⟨_, I, g, .bool false, goneIn M h, rfl, .inr ⟨rfl, hq, rfl⟩, ⟨(hd.goneIn M).ext hx2 ?_ ?_, hx2, fun _ k => k, fun _ k => .inl k, fun _ _ k => k, fun o k1 k2 => ?_, fun o ao' p b k1 k2 k3 k4 => ?_, fun o ao' p b k1 k2 k3 k4 => ?_⟩, .rd (.bool false)⟩
      · rintro b k ⟨o, ao, p, _, m1, m2, m3⟩
        exact hd.own o ao p b m1 m2 m3 k
      · rintro b ⟨o, ao, p, k1, k2, k3⟩ ⟨o', ao', p', m0, m1, m2, m3⟩
        obtain ⟨q1, q2⟩ := goneIn_own k1 k3
        exact q1 (hd.sep o o' ao ao' p p' b q2 m1 k2 m2 k3 m3 ▸ m0)
      · rw [goneIn_at, if_neg (fun k => k2 k.1)]
      · exact ⟨ao', (goneIn_own k2 k4).2, k4⟩
      · have := (List.getElem?_eq_some_iff.1 k2).1
        rw [goneIn_len] at this
        omega
end Go.Proofs.YtafomdobfmmleaaGreatDoor
