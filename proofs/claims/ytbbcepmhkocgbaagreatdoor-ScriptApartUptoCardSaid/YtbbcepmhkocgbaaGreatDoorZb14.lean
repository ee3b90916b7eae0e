/- Lemmas and contracts, part 14. -/
import Derived.Test.YtbbcepmhkocgbaaGreatDoorZb13
import Derived.Lib.ConvBytes
import Derived.Test.YtbbcepmhkocgbaaGreatDoorProg
/- Walks computed: operations that change memory, and calls. No program here. -/
namespace Go.Proofs.YtbbcepmhkocgbaaGreatDoor
open Go.RowKit
set_option linter.unusedVariables false

theorem sh_eq : ∀ (h : List AO) (o : Nat) (x : AO), sh h o x = h.set o x
  | [], o, x => rfl
  | a :: l, 0, x => rfl
  | a :: l, n + 1, x => by simp [sh, sh_eq l n x]
/-- more is held to be data -/
theorem Den.inns {I I' : Nat → Prop} {g : Ghost} {w : World} {h : List AO} (hd : Den I g w h) (hI : ∀ b, I b → I' b) (h1 : ∀ b, I' b → b < w.heap.size) (h2 : ∀ b, I' b → ¬ Owned g h b) : Den I' g w h :=
  ⟨hd.len, h1, fun o ao p a b => (hd.obj o ao p a b).mono hI (fun _ _ h => h), fun o ao p b a1 a2 a3 hb => h2 b hb ⟨o, ao, p, a1, a2, a3⟩, hd.sep⟩
theorem Owned.push {g : Ghost} {h : List AO} {p : Option Nat × Value} {ao : AO} {b : Nat} (hl : g.length = h.length) (ho : Owned (g ++ [p]) (h ++ [ao]) b) : Owned g h b ∨ ao.owns p b := by
  obtain ⟨o, a, q, h1, h2, h3⟩ := ho
  rcases get_push h1 with ⟨e1, k1⟩ | ⟨e1, k1⟩ <;> rcases get_push h2 with ⟨e2, k2⟩ | ⟨e2, k2⟩
  · exact .inl ⟨o, a, q, k1, k2, h3⟩
  · omega
  · omega
  · subst k1 k2; exact .inr h3
theorem Af.push {I : Nat → Prop} {g : Ghost} {w w' : World} {h : List AO} {M : List Nat} (hd : Den I g w h) (hb : B w w') {p : Option Nat × Value} {ao : AO} (hr : Ro I (g ++ [p]) w' p ao) (hn : ∀ b, ao.owns p b → w.heap.size ≤ b) : Af I g w h M I (g ++ [p]) w' (h ++ [ao]) where
  den := hd.push hb hr hn
  ext := Ext.of_B hb
  i1 _ h := h
  i2 _ h := .inl h
  gx _ _ h := get_old h
  fr o ho _ := List.getElem?_append_left ho
  al o a q b ho h1 h2 h3 := ⟨a, by rw [← h1, List.getElem?_append_left ho], h3⟩
  nw o a q b ho h1 h2 h3 := by
    rcases get_push h1 with ⟨e1, _⟩ | ⟨e1, k1⟩
    · omega
    · rcases get_push h2 with ⟨e2, _⟩ | ⟨e2, k2⟩
      · have := hd.len; omega
      · subst k1 k2; exact .inr (hn b h3)
/-- a new object of cells: its ghost -/
def gp (w : World) : Option Nat × Value := (some w.heap.size, .pointer (some ⟨w.heap.size, 0, none⟩))
theorem Af.cells {I : Nat → Prop} {g : Ghost} {w w' : World} {h : List AO} {M : List Nat} {e : TypeId} {vs : List Value} {cs : List D} (hd : Den I g w h) (hb : B w w') (hk : Blk w' w.heap.size e vs.toArray) (hv : Vrs I (g ++ [gp w]) w' vs cs) (h1 : ∀ v ∈ vs, v.oneCell' = true) : Af I g w h M I (g ++ [gp w]) w' (h ++ [.cells e cs]) :=
  Af.push hd hb (p := gp w) (ao := .cells e cs) ⟨w.heap.size, vs, rfl, hk, hv, h1⟩ (fun b hb => by
    have : some w.heap.size = some b := hb
    injection this with this
    omega)
theorem Vr.newPtr {I I' : Nat → Prop} {g : Ghost} {w w' : World} {h : List AO} (hd : Den I g w h) : Vr I' (g ++ [gp w]) w' (.pointer (some ⟨w.heap.size, 0, none⟩)) (.ptr h.length 0) :=
  .ptr _ 0 w.heap.size (some w.heap.size) (by rw [← hd.len]; exact getD_len _ _)
theorem Vr.newRow {I I' : Nat → Prop} {g : Ghost} {w w' : World} {h : List AO} (hd : Den I g w h) {bo : Option Nat} {a : Option Addr} {l c : Nat} : Vr I' (g ++ [(bo, .slice a l c)]) w' (.slice a l c) (.row h.length) :=
  .row _ bo _ _ _ (by rw [← hd.len]; exact getD_len _ _)
theorem Blk.setCells {t : TypeId} {b : Nat} : ∀ (us vs : List Value) (o : Nat) {w : World}, Blk w b t vs.toArray → Blk (w.setCells b o us) b t (setVs vs o us).toArray
  | [], vs, o, w, h => h
  | u :: us, vs, o, w, h => by
    rw [World.setCells, setVs]
    refine Blk.setCells us _ (o + 1) ?_
    have := h.set_ o u
    simpa using this
theorem Ext.setCells {b : Nat} : ∀ (us : List Value) (o : Nat) {w : World}, Ext (fun x => x = b) w (w.setCells b o us)
  | [], o, w => Ext.refl _ _
  | u :: us, o, w => by
    rw [World.setCells]
    exact ((Ext.refl (fun x => x = b) w).set (p := ⟨b, o, none⟩) (fun _ => rfl) u).trans_ (Ext.setCells us (o + 1))
/-- an object turned in place -/
theorem Den.setObj {I : Nat → Prop} {g : Ghost} {w w' : World} {h : List AO} (hd : Den I g w h) {o : Nat} {ao ao' : AO} {p : Option Nat × Value} (ho : h[o]? = some ao) (hp : g[o]? = some p) (hx : Ext (fun b => ao.owns p b) w w') (hs : ∀ b, ao'.owns p b → ao.owns p b) (hr : Ro I g w' p ao') : Den I g w' (h.set o ao') := by
  have hI : ∀ b, I b → ¬ ao.owns p b := fun b hb ho' => hd.own o ao p b ho hp ho' hb
  have key : ∀ {i : Nat} {a : AO}, (h.set o ao')[i]? = some a → (i = o ∧ a = ao') ∨ (i ≠ o ∧ h[i]? = some a) := by
    intro i a hi
    rw [List.getElem?_set] at hi
    split at hi
    · rename_i e
      split at hi
      · injection hi with q; exact .inl ⟨e.symm, q.symm⟩
      · cases hi
    · rename_i e; exact .inr ⟨fun q => e q.symm, hi⟩
  refine ⟨by simp [hd.len], fun b hb => Nat.lt_of_lt_of_le (hd.inn b hb) hx.size, fun i a q h1 h2 => ?_, fun i a q b h1 h2 h3 hb => ?_, fun i i' a a' q q' b h1 h1' h2 h2' h3 h3' => ?_⟩
  · rcases key h1 with ⟨rfl, rfl⟩ | ⟨e, k⟩
    · rw [hp] at h2; injection h2 with h2; subst h2; exact hr
    · exact (hd.obj i a q k h2).ext hx hI (fun b hb hb' => e (hd.sep i o a ao q p b k ho h2 hp hb hb'))
  · rcases key h1 with ⟨rfl, rfl⟩ | ⟨e, k⟩
    · rw [hp] at h2; injection h2 with h2; subst h2
      exact hI b hb (hs b h3)
    · exact hd.own i a q b k h2 h3 hb
  · rcases key h1 with ⟨rfl, rfl⟩ | ⟨e, k⟩ <;> rcases key h1' with ⟨rfl, rfl⟩ | ⟨e', k'⟩
    · rfl
    · rw [hp] at h2; injection h2 with h2; subst h2
      exact hd.sep _ i' ao a' p q' b ho k' hp h2' (hs b h3) h3'
    · rw [hp] at h2'; injection h2' with h2'; subst h2'
      exact hd.sep i _ a ao q p b k ho h2 hp h3 (hs b h3')
    · exact hd.sep i i' a a' q q' b k k' h2 h2' h3 h3'
theorem Owned.set {g : Ghost} {h : List AO} {o : Nat} {ao ao' : AO} {p : Option Nat × Value} (ho : h[o]? = some ao) (hp : g[o]? = some p) (hs : ∀ b, ao'.owns p b → ao.owns p b) {b : Nat} (hb : Owned g (h.set o ao') b) : Owned g h b := by
  obtain ⟨i, a, q, h1, h2, h3⟩ := hb
  rw [List.getElem?_set] at h1
  split at h1
  · rename_i e
    subst e
    split at h1
    · injection h1 with e; subst e
      rw [hp] at h2; injection h2 with h2; subst h2
      exact ⟨_, ao, p, ho, hp, hs b h3⟩
    · cases h1
  · exact ⟨i, a, q, h1, h2, h3⟩
theorem flat_get {α : Type} {n : Nat} (hn : 0 < n) : ∀ (ys : List (List α)), (∀ y ∈ ys, y.length = n) → ∀ (q : Nat) (x : α), ys.flatten[q]? = some x → ∃ y, ys[q / n]? = some y ∧ y[q % n]? = some x
  | [], _, q, x, h => by simp at h
  | y :: ys, hl, q, x, h => by
    have hy := hl y (by simp)
    rw [List.flatten_cons, List.getElem?_append] at h
    split at h
    · rename_i hlt
      rw [hy] at hlt
      exact ⟨y, by rw [Nat.div_eq_of_lt hlt]; rfl, by rw [Nat.mod_eq_of_lt hlt]; exact h⟩
    · rename_i hge
      rw [hy] at hge h
      obtain ⟨z, h1, h2⟩ := flat_get hn ys (fun y h => hl y (by simp [h])) (q - n) x h
      have e : q = q - n + n := by omega
      refine ⟨z, ?_, ?_⟩
      · rw [e, Nat.add_div_right _ hn]
        simpa using h1
      · rw [e, Nat.add_mod_right]; exact h2
theorem flatD_len {α : Type} {n : Nat} : ∀ (ys : List (List α)), (∀ y ∈ ys, y.length = n) → ys.flatten.length = ys.length * n
  | [], _ => by simp
  | y :: ys, hl => by
    rw [List.flatten_cons, List.length_append, flatD_len ys (fun y h => hl y (by simp [h])), hl y (by simp), List.length_cons, Nat.add_mul]
    omega
/-- a list read cell by cell -/
theorem Dr.rows {I : Nat → Prop} {w : World} {u : Value} {n : Nat} {ys : List (List D)} (hn : 0 < n) (h : Dr I w u (.list n ys)) : ∃ news, Rd w u ys.length n news ∧ (∀ x ∈ news, x.oneCell' = true) ∧ Drs I w news ys.flatten := by
  cases h with
  | list A cap n l xs U hl0 hl hm hnone hlen hA g1 hU =>
    have hfl := flatD_len ys hlen
    have hV : ∀ (q : Nat), q < ys.length * n → ∃ y x, ys[q / n]? = some y ∧ y[q % n]? = some x ∧ ys.flatten[q]? = some x := by
      intro q hq
      have hx := List.getElem?_eq_getElem (l := ys.flatten) (i := q) (by rw [hfl]; exact hq)
      obtain ⟨y, h1, h2⟩ := flat_get hn ys hlen q _ hx
      exact ⟨y, _, h1, h2, hx⟩
    refine ⟨(List.range (ys.length * n)).map (fun q => U (q / n) (q % n)), ⟨by simp, A, cap, by rw [hl0], fun e => by rw [← hl0]; exact hnone e, by omega, fun ad had => ⟨fun h0 => ?_, fun j x hj => ?_⟩⟩, fun x hx => ?_, ⟨by simp [hfl], fun i v d h1 h2 => ?_⟩⟩
    · obtain ⟨b, off, e, hb, _, _⟩ := hA (by omega)
      rw [had] at e
      injection e with e
      subst e
      exact hb
    · have hlt : j < ys.length * n := by have := (List.getElem?_eq_some_iff.1 hj).1; simpa using this
      rw [List.getElem?_map, List.getElem?_range hlt] at hj
      injection hj with hj
      subst hj
      have hpos : 0 < ys.length := by
        rcases Nat.eq_zero_or_pos ys.length with e | e
        · rw [e] at hlt; simp at hlt
        · exact e
      obtain ⟨b, off, e, hb, _, hc⟩ := hA (by omega)
      rw [had] at e
      injection e with e
      subst e
      obtain ⟨y, x, h1, h2, _⟩ := hV j hlt
      have := hc (j / n) y (j % n) x h1 h2
      rw [Addr.add_mid]
      rw [← this]
      congr 2
      have := Nat.div_add_mod j n
      rw [Nat.mul_comm] at this
      omega
    · obtain ⟨q, hq, rfl⟩ := List.mem_map.1 hx
      obtain ⟨y, x, h1, h2, _⟩ := hV q (by simpa using hq)
      exact g1 _ _ _ _ h1 h2
    · have hlt : i < ys.length * n := by have := (List.getElem?_eq_some_iff.1 h1).1; simpa using this
      rw [List.getElem?_map, List.getElem?_range hlt] at h1
      injection h1 with h1
      subst h1
      obtain ⟨y, x, k1, k2, k3⟩ := hV i hlt
      rw [k3] at h2
      injection h2 with h2
      subst h2
      exact hU _ _ _ _ k1 k2
section
variable {P : Program} {Q : Exit → S → Prop}
theorem callFunc_run {f : FuncId} (h : calleeOk P f = true) (args : Array Value) (w : World) : (callFunc f args).run P w = .ok (.enter f args) w := by
  unfold calleeOk at h
  split at h
  · rename_i fn hf
    rw [Bool.and_eq_true] at h
    have h1 : (fn.name == "runtime.NumGoroutine") = false := by simpa using h.1
    have h2 : fn.body.isNone = false := by
      cases hb : fn.body with
      | none => rw [hb] at h; simp at h
      | some c => rfl
    unfold callFunc
    simp only [Sem.run_bind, run_program, Result.andThen_ok, hf, h1, h2]
    rfl
  · cases h
/-- what 'execW' gives -/
def Ef (P : Program) (I : Nat → Prop) (g : Ghost) (w : World) (ρ : Operand → Value) (o : Oper) (s : S) (Q : Exit → S → Prop) (k : D → S → T) : Prop :=
  (∃ v w' I' g' d s', ((execOp ρ o).run P w = .ok (.value v) w' ∨ ((execOp ρ o).run P w = .ok .skip w' ∧ v = undef)) ∧ s'.t = s.t ∧ Af I g w s.h (modsOf o.op s) I' g' w' s'.h ∧ Vr I' g' w' v d ∧ (k d s').ok P Q) ∨
  (∃ f vs, (execOp ρ o).run P w = .ok (.enter f vs) w ∧ Calls P f vs w fun e w' => ∃ v I' g' d h', e = .returned v ∧ Af I g w s.h (modsOf o.op s) I' g' w' h' ∧ Vr I' g' w' v d ∧ (k d { s with h := h' }).ok P Q)
theorem newVar_run (t : TypeId) (v : Value) (w : World) : (newVar t v).run P w = .ok ⟨w.heap.size, 0, none⟩ (w.alloc (.cells v.cells t)) := by
  simp [newVar, newRow]
theorem zero_run {t : TypeId} {inf : TypeInfo} {z : Value} (hi : P.info? t = some inf) (hz : inf.zero = some z) (w : World) : (zeroValue t).run P w = .ok z w := by
  simp [zeroValue, typeInfo, hi, hz]
theorem row_Rd {w : World} {base sz n : Nat} {e : TypeId} {v : Value} {xs : List Value} (h : w.ownsRow base e sz v n xs) : ∃ a c, v = .slice a n c := own_slice h
/-- a slice's elements, read -/
theorem rowsD_ok {I : Nat → Prop} {g : Ghost} {w : World} {h : List AO} (hd : Den I g w h) {u : Value} {d : D} {n : Nat} {ys : List (List D)} (hn : 0 < n) (hv : Vr I g w u d) (hr : rowsD h n d = some ys) :
    ∃ news, Rd w u ys.length n news ∧ (∀ x ∈ news, x.oneCell' = true) ∧ Drs I w news ys.flatten ∧ ∀ y ∈ ys, y.length = n := by
  unfold rowsD at hr
  split at hr
  · rename_i m zs
    cases hm : Nat.beq m n with
    | false => rw [hm] at hr; cases hr
    | true =>
      rw [hm] at hr
      injection hr with hr
      subst hr
      cases Nat.eq_of_beq_eq_true hm
      have hu := hv.list_inv
      obtain ⟨news, h1, h2, h3⟩ := Dr.rows hn hu
      refine ⟨news, h1, h2, h3, ?_⟩
      cases hu with
      | list A cap n l xs U hl0 hl hm hnone hlen hA g1 hU => exact hlen
  · injection hr with hr
    subst hr
    rw [hv.nils_inv]
    exact ⟨[], ⟨by simp, none, 0, rfl, fun _ => ⟨rfl, rfl⟩, Nat.le_refl _, fun ad h => by cases h⟩, by simp, .nil, by simp⟩
  · rename_i o
    split at hr
    · rename_i t m zs hh
      cases hm : Nat.beq m n with
      | false => rw [hm] at hr; cases hr
      | true =>
        rw [hm] at hr
        injection hr with hr
        subst hr
        cases Nat.eq_of_beq_eq_true hm
        obtain ⟨bo, ra, rl, rc, hg, rfl⟩ := hv.row_inv
        obtain ⟨a', c', vs, hp, hown, hbo, hvs, hlen, h1⟩ := hd.obj o _ _ (lh_row hh) hg
        exact ⟨vs, Rd.of_own hown, h1, hvs, hlen⟩
    · cases hr
  · cases hr
/-- append onto a row of one's own, or onto nothing -/
theorem appd_ok {I : Nat → Prop} {g : Ghost} {w : World} {h : List AO} (hd : Den I g w h) {tb : TT} (htb : tb.ok P) {t e : TypeId} {i : TyI} {sz by_ : Nat} {z : List D} (ht : tb.look t = some ⟨sz, by_, z, .slice e⟩) (he : tb.look e = some i) {v u : Value} {xs ys : List (List D)} {vs : List Value} (hpos : 0 < i.size) {news : List Value} (hr : Rd w u ys.length i.size news) (g1 : ∀ x ∈ news, x.oneCell' = true) (hnv : Drs I w news ys.flatten) (hys : ∀ y ∈ ys, y.length = i.size)
    (hown : w.ownsRow 0 e i.size v xs.length vs) (hvs : Drs I w vs xs.flatten) (hlen : ∀ x ∈ xs, x.length = i.size) (h1 : ∀ x ∈ vs, x.oneCell' = true) (hO : ∀ b, v.ownBlock = some b → ¬ I b ∧ ¬ Owned g h b) (h63 : xs.length + ys.length ≤ maxLen) (hroom : (xs.length + ys.length) * i.bytes ≤ 140737488355328) (ty : TypeId) :
    ∃ v' w', (Builtin.append_ #[t, t] ty #[v, u]).run P w = .ok v' w' ∧ w.grownBy w' v.ownBlock ∧ Den I (g ++ [(v'.ownBlock, v')]) w' (h ++ [.row e i.size (xs ++ ys)]) ∧ (∃ a l c, v' = .slice a l c) ∧ (v'.ownBlock = v.ownBlock ∨ v'.ownBlock = some w.heap.size) := by
  have hk := kind_slice htb ht
  obtain ⟨inf, zv, hinf, hsz, hby, hz, hzo, hzs, hzr⟩ := (htb e i he).info
  obtain ⟨v', w', r1, r2, r3, r4⟩ := append_Rd (P := P) (t := t) (ty := ty) hk (z := zv) (sz := i.size) (bytes := i.bytes) (by rw [hinf]; simp [hz, hsz, hby]) hzs hpos hown hr g1 h63 hroom (Nat.zero_le _)
  have hx : Ext (fun b => some b = v.ownBlock) w w' := (Ext.refl _ w).grown r3 (fun b e _ => e.symm)
  have hd' : Den I g w' h := hd.ext hx (fun b hb e => (hO b e.symm).1 hb) (fun b hb e => (hO b e.symm).2 hb)
  have hI' : ∀ b, I b → ¬ some b = v.ownBlock := fun b hb e => (hO b e.symm).1 hb
  obtain ⟨a, c, hv'⟩ := row_Rd r2
  refine ⟨v', w', r1, r3, hd'.push' ⟨a, c, vs ++ news, ?_, ?_, rfl, ?_, ?_, ?_⟩ (fun b hb => ?_), ⟨a, _, c, hv'⟩, r4⟩
  · rw [List.length_append]; exact hv'
  · rw [List.length_append]; exact r2
  · rw [List.flatten_append]
    exact (hvs.append hnv).ext hx hI'
  · intro x hx
    rcases List.mem_append.1 hx with e | e
    · exact hlen x e
    · exact hys x e
  · intro x hx
    rcases List.mem_append.1 hx with e | e
    · exact h1 x e
    · exact g1 x e
  · have hb' : v'.ownBlock = some b := hb
    rcases r4 with e | e
    · rw [e] at hb'; exact hO b hb'
    · rw [e] at hb'
      injection hb' with hb'
      subst hb'
      exact ⟨fun hI => Nat.lt_irrefl _ (hd.inn _ hI), fun ho => Nat.lt_irrefl _ (hd.lt ho)⟩
end
theorem Dr.of_row {I : Nat → Prop} {w : World} {t : TypeId} {n : Nat} {v : Value} {xs : List (List D)} {vs : List Value} (hr : w.ownsRow 0 t n v xs.length vs) (hd : Drs I w vs xs.flatten) (hl : ∀ x ∈ xs, x.length = n) (h1 : ∀ v ∈ vs, v.oneCell' = true) (hI : ∀ b, v.ownBlock = some b → I b) : Dr I w v (.list n xs) := by
  have hfl := flatD_len xs hl
  have key : ∀ (i : Nat) x (j : Nat) d, xs[i]? = some x → x[j]? = some d → i * n + j < xs.length * n ∧ xs.flatten[i * n + j]? = some d := by
    intro i x j d hx hj
    have hi := (List.getElem?_eq_some_iff.1 hx).1
    have hxl := hl x (List.mem_of_getElem? hx)
    have hjl := (List.getElem?_eq_some_iff.1 hj).1
    have hlt : i * n + j < xs.length * n := by
      have h2 : (i + 1) * n ≤ xs.length * n := Nat.mul_le_mul_right n hi
      rw [Nat.add_mul, Nat.one_mul] at h2
      omega
    refine ⟨hlt, ?_⟩
    have h3 := List.getElem?_eq_getElem (l := xs.flatten) (i := i * n + j) (by rw [hfl]; exact hlt)
    obtain ⟨y, e1, e2⟩ := flat_get (by omega) xs hl _ _ h3
    have d1 : (i * n + j) / n = i := by
      rw [Nat.mul_comm, Nat.mul_add_div (by omega), Nat.div_eq_of_lt (by omega)]
      rfl
    have d2 : (i * n + j) % n = j := by
      rw [Nat.mul_comm, Nat.mul_add_mod, Nat.mod_eq_of_lt (by omega)]
    rw [d1, hx] at e1
    injection e1 with e1
    subst e1
    rw [d2, hj] at e2
    rw [h3, ← e2]
  obtain ⟨hlen, hcase⟩ := hr
  have hvd : ∀ (i : Nat) x (j : Nat) d, xs[i]? = some x → x[j]? = some d → ∃ u, vs[i * n + j]? = some u := fun i x j d hx hj => ⟨_, List.getElem?_eq_getElem (by have := (key i x j d hx hj).1; omega)⟩
  rcases hcase with ⟨rfl, h0⟩ | ⟨g, cap, cur, rfl, hg, hh, hc, hm, hs, ht⟩
  · have hx0 : xs = [] := List.eq_nil_of_length_eq_zero h0
    subst hx0
    exact .list none 0 n 0 [] (fun _ _ => undef) rfl (Nat.le_refl _) (Nat.zero_le _) (fun _ => ⟨rfl, rfl⟩) (by simp) (fun h => by simp at h) (by simp) (by simp)
  · refine .list _ cap n _ xs (fun i j => vs.getD (i * n + j) undef) rfl hc hm (fun e => by cases e) hl (fun h0 => ⟨g, 0, rfl, Blk.lt (t := t) hh, hI g rfl, fun i x j d hx hj => ?_⟩) (fun i x j d hx hj => ?_) (fun i x j d hx hj => ?_)
    · obtain ⟨u, hu⟩ := hvd i x j d hx hj
      have hk := (key i x j d hx hj).1
      rw [Nat.zero_add, Blk.cell (t := t) hh]
      have : cur[i * n + j]? = vs[i * n + j]? := by
        rw [← ht, List.getElem?_take, if_pos hk, Array.getElem?_toList]
      rw [this, hu]
      simp [List.getD, hu]
    · obtain ⟨u, hu⟩ := hvd i x j d hx hj
      simp only [List.getD, hu, Option.getD_some]
      exact h1 u (List.mem_of_getElem? hu)
    · obtain ⟨u, hu⟩ := hvd i x j d hx hj
      simp only [List.getD, hu, Option.getD_some]
      exact hd.2 _ u d hu (key i x j d hx hj).2
end Go.Proofs.YtbbcepmhkocgbaaGreatDoor

/- Walks computed: 'execW' is sound. No program here. -/
namespace Go.Proofs.YtbbcepmhkocgbaaGreatDoor
open Go.RowKit
set_option linter.unusedVariables false

section
variable {P : Program} {Q : Exit → S → Prop}
theorem freeze_heap (w : World) (a : Addr) (n j : Nat) (h : j ≠ a.block) : (w.freeze a n).heap[j]? = w.heap[j]? := by
  unfold World.freeze
  split
  · rfl
  · simp only [Array.getElem?_modify]
    rw [if_neg (fun e => h e.symm)]
theorem repD_flat (z : List D) : ∀ n, repD z n = (List.replicate n z).flatten
  | 0 => rfl
  | n + 1 => by simp [repD, List.replicate_succ, repD_flat z n]
theorem chunkD_ok {n : Nat} : ∀ (l : Nat) (cs : List D) (xs : List (List D)), chunkD n l cs = some xs → xs.flatten = cs ∧ xs.length = l ∧ ∀ x ∈ xs, x.length = n
  | 0, [], xs, h => by simp [chunkD] at h; subst h; simp
  | 0, _ :: _, xs, h => by simp [chunkD] at h
  | l + 1, cs, xs, h => by
    simp only [chunkD] at h
    split at h
    · rename_i r hr
      split at h
      · rename_i rs hrs
        injection h with h
        subst h
        rw [dropD_eq] at hrs
        obtain ⟨rfl, hle⟩ := tkD_eq _ _ _ hr
        obtain ⟨h1, h2, h3⟩ := chunkD_ok l _ rs hrs
        refine ⟨by rw [List.flatten_cons, h1, List.take_append_drop], by simp [h2], fun x hx => ?_⟩
        rcases List.mem_cons.1 hx with rfl | e
        · rw [List.length_take]; omega
        · exact h3 x e
      · cases h
    · cases h
theorem fillR_ok {n : Nat} (hn : 0 < n) {s : S} {a : Act} {I : Nat → Prop} {g : Ghost} {w : World} (hev : ∀ x, Vr I g w (a.eval x) (ev s x)) :
    ∀ (ps : List (Nat × Operand)) (cs cs' : List D) (A : Array Value), Vrs I g w A.toList cs → (∀ v ∈ A.toList, v.oneCell' = true) → fillR n s cs ps = some cs' →
      ∃ A', Instr.fill (fun i => some (i * n, n)) A (ps.map fun x => (x.1, a.eval x.2)) = some A' ∧ Vrs I g w A'.toList cs' ∧ ∀ v ∈ A'.toList, v.oneCell' = true
  | [], cs, cs', A, hv, h1, h => by
    simp only [fillR] at h
    injection h with h
    subst h
    exact ⟨A, rfl, hv, h1⟩
  | (i, x) :: r, cs, cs', A, hv, h1, h => by
    simp only [fillR] at h
    split at h
    · rename_i ds hds
      cases hl : Nat.beq ds.length n with
      | false => rw [hl] at h; cases h
      | true =>
        rw [hl] at h
        simp only [cond_true] at h
        split at h
        · rename_i cs1 ho
          obtain ⟨rfl, hle⟩ := overD_eq _ _ _ _ ho
          obtain ⟨k1, k2⟩ := cellsD_ok (hev x) hds
          have hdn : ds.length = n := Nat.eq_of_beq_eq_true hl
          have hsz : (a.eval x).cells.size = n := by
            have := k1.1
            rw [Array.length_toList] at this
            omega
          have hAs : A.size = cs.length := by rw [← Array.length_toList]; exact hv.1
          obtain ⟨A', e1, e2, e3⟩ := fillR_ok hn hev r _ cs' ((a.eval x).cells.zipIdx.foldl (fun (c : Array Value) (y : Value × Nat) => c.setIfInBounds (i * n + y.2) y.1) A) (by rw [foldl_setA]; exact hv.setMany (i * n) k1) (fun v hm => by
            rw [foldl_setA] at hm
            rcases setVs_mem _ _ _ _ hm with e | e
            · exact h1 v e
            · exact k2 v e) h
          refine ⟨A', ?_, e2, e3⟩
          simp only [List.map_cons, Instr.fill]
          have hne : ds ≠ [] := List.ne_nil_of_length_pos (by omega)
          have c2 : ¬ ((decide ((a.eval x).cells.size ≠ n) || decide (i * n + (a.eval x).cells.size > A.size)) = true) := by
            rcases hle with e | e
            · exact absurd e hne
            · simp only [Bool.or_eq_true, decide_eq_true_eq]
              omega
          show (if (decide ((a.eval x).cells.size ≠ n) || decide (i * n + (a.eval x).cells.size > A.size)) = true then none else _) = _
          rw [if_neg c2]
          exact e1
        · cases h
    · cases h
theorem zeros_ok {I : Nat → Prop} {g : Ghost} {w : World} {z : Array Value} {ds : List D} (hv : Vrs I g w z.toList ds) (h1 : ∀ v ∈ z.toList, v.oneCell' = true) {n : Nat} (hn : 0 < n) (hz : z.size = n) (l : Nat) :
    Vrs I g w ((Array.range (l * n)).map (z[· % z.size]!)).toList (repD ds l) ∧ ∀ v ∈ ((Array.range (l * n)).map (z[· % z.size]!)).toList, v.oneCell' = true := by
  have hdl : ds.length = n := by rw [← hv.1, Array.length_toList, hz]
  have hfl : ((List.replicate l ds).flatten).length = l * n := by
    rw [flatD_len (n := n) _ (fun y hy => by rw [List.eq_of_mem_replicate hy]; exact hdl)]
    simp
  have hget : ∀ i, z[i % z.size]! = z[i % n]'(by rw [hz]; exact Nat.mod_lt _ hn) := by
    intro i
    subst hz
    exact getElem!_pos z (i % z.size) (Nat.mod_lt _ hn)
  rw [repD_flat]
  refine ⟨⟨by simp [hfl], fun i v d k1 k2 => ?_⟩, fun v hv' => ?_⟩
  · have hlt : i < l * n := by have := (List.getElem?_eq_some_iff.1 k1).1; simpa using this
    obtain ⟨y, e1, e2⟩ := flat_get hn _ (fun y hy => by rw [List.eq_of_mem_replicate hy]; exact hdl) i d k2
    have hy : y = ds := List.eq_of_mem_replicate (List.mem_of_getElem? e1)
    subst hy
    have hv2 : v = z[i % n]'(by rw [hz]; exact Nat.mod_lt _ hn) := by
      rw [Array.getElem?_toList, Array.getElem?_map, Array.getElem?_range] at k1
      rw [if_pos hlt] at k1
      simp only [Option.map_some] at k1
      injection k1 with k1
      rw [← k1, hget]
    refine hv.2 (i % n) v d ?_ e2
    rw [hv2, Array.getElem?_toList]
    exact Array.getElem?_eq_getElem _
  · rw [Array.mem_toList_iff] at hv'
    obtain ⟨i, _, rfl⟩ := Array.mem_map.1 hv'
    rw [hget]
    exact h1 _ (Array.mem_toList_iff.2 (Array.getElem_mem _))
set_option maxHeartbeats 4000000 in
theorem execW_ok {E : En} (htb : E.tb.ok P) {s : S} {a : Act} {I : Nat → Prop} {g : Ghost} {w : World} (hev : ∀ x, Vr I g w (a.eval x) (ev s x)) (hd : Den I g w s.h) {o : Oper} {k : D → S → T} (h : (execW E o.op o.type s k).ok P Q) : Ef P I g w a.eval o s Q k := by
  obtain ⟨dst, op, ty, pos, after, guard⟩ := o
  simp only at h
  unfold execW at h
  simp only [setH_eq, setHD_eq, pushH_eq, forceD_eq] at h
  split at h
  · -- alloc
    rename_i e
    split at h
    · rename_i isz iby iz ikd hl
      obtain ⟨inf, zv, hinf, hsz, hby, hz, hzo, hzs, hzr⟩ := (htb e _ hl).info
      obtain ⟨z1, z2⟩ := zeroOk_ok (I := I) (g := g ++ [gp w]) (w := w.alloc (.cells zv.cells e)) _ _ hzo
      refine .inl ⟨.pointer (some ⟨w.heap.size, 0, none⟩), w.alloc (.cells zv.cells e), I, g ++ [gp w], .ptr s.h.length 0, { s with h := s.h ++ [.cells e iz] }, .inl ?_, rfl, Af.cells hd (B.alloc' _ _) (by simpa using Blk.new w e zv.cells) z1 z2, Vr.newPtr hd, h⟩
      simp only [execOp, Instr.alloc, Sem.run_bind, zero_run hinf hz, Result.andThen_ok, newVar_run, Sem.run_pure]
    · exact h.elim
  · -- box
    rename_i e x
    split at h
    · rename_i cs hc
      obtain ⟨z1, z2⟩ := cellsD_ok (hev x) hc
      have z1' : Vrs I (g ++ [gp w]) (w.alloc (.cells (a.eval x).cells e)) (a.eval x).cells.toList cs := (z1.ext (Ext.of_B (own := fun _ => False) (B.alloc' _ _)) (fun _ _ => id)).mono (fun _ h => h) (fun _ _ h => get_old h)
      refine .inl ⟨.pointer (some ⟨w.heap.size, 0, none⟩), w.alloc (.cells (a.eval x).cells e), I, g ++ [gp w], .ptr s.h.length 0, { s with h := s.h ++ [.cells e cs] }, .inl ?_, rfl, Af.cells hd (B.alloc' _ _) (by simpa using Blk.new w e (a.eval x).cells) z1' z2, Vr.newPtr hd, h⟩
      simp only [execOp, Instr.box, Sem.run_bind, Result.andThen_ok, newVar_run, Sem.run_pure]
    · exact h.elim
  · -- store
    rename_i t x y
    split at h
    · rename_i o off i ds hx hl hds
      split at h
      · rename_i ct cs hh
        cases hb : Nat.beq ds.length i.size with
        | false => rw [hb] at h; exact h.elim
        | true =>
          rw [hb] at h
          simp only [cond_true] at h
          split at h
          · rename_i cs' ho
            obtain ⟨rfl, hle⟩ := overD_eq _ _ _ _ ho
            obtain ⟨k1, k2⟩ := cellsD_ok (hev y) hds
            have hv := hev x; rw [hx] at hv
            obtain ⟨b, bo, hg, e⟩ := hv.ptr_inv
            have hlc := lh_cells hh
            obtain ⟨b', vs, hp, hblk, g1, g2⟩ := hd.obj o _ _ hlc hg
            injection hp with hp1 hp2
            injection hp2 with hp2
            injection hp2 with hp2
            injection hp2 with hp2 _ _
            subst hp2
            obtain ⟨inf, zv, hinf, hsz, hby, hz, hzo, hzs, hzr⟩ := (htb t i hl).info
            have hds' : ds.length = i.size := Nat.eq_of_beq_eq_true hb
            have hus : (a.eval y).cells.toList.length = ds.length := k1.1
            have hroom : ∀ j, j < (a.eval y).cells.toList.length → off + j < vs.length := by
              intro j hj
              rcases hle with e | e
              · rw [e] at hus; simp at hus; simp [hus] at hj
              · have := g1.1; omega
            have hrun : (storeVar t ⟨b, off, none⟩ (a.eval y)).run P w = .ok () (w.setCells b off (a.eval y).cells.toList) := by
              have := run_storeCells_cells (P := P) b off (a.eval y).cells.toList 0 w (fun j hj => by rw [hblk.cell]; simp; exact hroom j hj) (fun j hj => hblk.frozen _) k2
              rw [Nat.add_zero] at this
              unfold storeVar
              have hc : ¬ ((a.eval y).cells.size ≠ inf.size) := by
                rw [Array.length_toList] at hus
                omega
              simp only [Sem.run_bind, sizeOf_run hinf, Result.andThen_ok, if_neg hc]
              exact this
            have hxx : Ext (fun q => (AO.cells ct cs).owns (bo, .pointer (some ⟨b, 0, none⟩)) q) w (w.setCells b off (a.eval y).cells.toList) := (Ext.setCells _ _).mono (fun q _ e => by subst e; exact hp1)
            have hI : ∀ q, I q → ¬ (AO.cells ct cs).owns (bo, .pointer (some ⟨b, 0, none⟩)) q := fun q hq ho' => hd.own o _ _ q hlc hg ho' hq
            refine .inl ⟨undef, w.setCells b off (a.eval y).cells.toList, I, g, .tup [], { s with h := sh s.h o (.cells ct (setDs cs off ds)) }, .inr ⟨?_, rfl⟩, rfl, ⟨?_, ?_, fun _ h => h, fun _ h => .inl h, fun _ _ h => h, fun q hq hn => ?_, fun q ao' p' b2 hq h1 h2 h3 => ?_, fun q ao' p' b2 hq h1 h2 h3 => ?_⟩, .undef, h⟩
            · simp only [execOp, Instr.storeAt, e, Instr.sureAddr, Sem.run_bind, Sem.run_pure, Result.andThen_ok, hrun]
            · show Den I g _ (sh s.h o _)
              rw [sh_eq]
              refine hd.setObj hlc hg hxx (fun q hq => hq) ⟨b, setVs vs off (a.eval y).cells.toList, by rw [hp1], hblk.setCells _ _ _, (g1.setMany off k1).ext hxx hI, fun v hv => ?_⟩
              rcases setVs_mem _ _ _ _ hv with e | e
              · exact g2 v e
              · exact k2 v e
            · refine hxx.mono (fun q _ hq => ⟨o, _, _, ?_, hlc, hg, hq⟩)
              simp [modsOf, hx]
            · have hn' : q ≠ o := by simpa [modsOf, hx] using hn
              show (sh s.h o _)[q]? = _
              rw [sh_eq, List.getElem?_set_ne (Ne.symm hn')]
            · have h1' : (s.h.set o (.cells ct (setDs cs off ds)))[q]? = some ao' := by rw [← sh_eq]; exact h1
              rw [List.getElem?_set] at h1'
              split at h1'
              · rename_i e
                subst e
                split at h1' <;> first
                  | (cases h1'; done)
                  | (injection h1' with e; subst e; exact ⟨_, hlc, h3⟩)
              · exact ⟨_, h1', h3⟩
            · have h1' : (s.h.set o (.cells ct (setDs cs off ds)))[q]? = some ao' := by rw [← sh_eq]; exact h1
              have := (List.getElem?_eq_some_iff.1 h1').1
              simp at this
              omega
          · exact h.elim
      · exact h.elim
    · exact h.elim
  · -- buildSlice
    rename_i t len parts
    split at h
    · rename_i sz by_ z e hl
      split at h
      · rename_i i hi
        cases hb : Nat.blt 0 i.size && Nat.ble (len * i.size) 16777216 with
        | false => rw [hb] at h; exact h.elim
        | true =>
          rw [hb] at h
          rw [Bool.and_eq_true] at hb
          simp only [cond_true] at h
          have hpos : 0 < i.size := Nat.le_of_ble_eq_true hb.1
          have hcap : len * i.size ≤ 16777216 := Nat.le_of_ble_eq_true hb.2
          split at h
          · rename_i cs hf
            cases hpu : pureD.pl cs with
            | false => rw [hpu] at h; exact h.elim
            | true =>
            rw [hpu] at h
            simp only [cond_true] at h
            split at h
            · rename_i xs hx
              have hk := kind_slice htb hl
              obtain ⟨inf, zv, hinf, hsz, hby, hz, hzo, hzs, hzr⟩ := (htb e i hi).info
              obtain ⟨z1, z2⟩ := zeroOk_ok (I := I) (g := g) (w := w) _ _ hzo
              obtain ⟨q1, q2⟩ := zeros_ok z1 z2 hpos hzs len
              obtain ⟨A, r1, r2, r3⟩ := fillR_ok hpos hev _ _ _ _ q1 q2 hf
              obtain ⟨c1, c2, c3⟩ := chunkD_ok _ _ _ hx
              have hAl : A.size = len * i.size := by
                have := r2.1
                rw [Array.length_toList] at this
                rw [this, ← c1, flatD_len _ c3, c2]
              have hlm : len ≤ maxLen := by
                unfold maxLen
                have : len * 1 ≤ len * i.size := Nat.mul_le_mul_left _ hpos
                omega
              have hnew : (w.alloc (.cells A e)).ownsRow 0 e i.size (.slice (some ⟨w.heap.size, 0, none⟩) len len) xs.length A.toList := by
                rw [c2]
                refine ⟨by rw [Array.length_toList, hAl], .inr ⟨w.heap.size, len, A, rfl, Nat.zero_le _, Blk.new w e A, Nat.le_refl _, hlm, hAl, ?_⟩⟩
                rw [List.take_of_length_le (by rw [Array.length_toList, hAl]; exact Nat.le_refl _)]
              have r2' : Drs I (w.alloc (.cells A e)) A.toList xs.flatten := by
                rw [c1]
                exact (pureL_ok r2 hpu).ext (Ext.of_B (own := fun _ => False) (B.alloc' _ _)) (fun _ _ => id)
              have hrun : (execOp a.eval ⟨dst, .buildSlice t len parts, ty, pos, after, guard⟩).run P w = .ok (.value (.slice (some ⟨w.heap.size, 0, none⟩) len len)) (w.alloc (.cells A e)) := by
                have hnz : ¬ (len * i.size > 2 ^ 24) := by omega
                have hfill : Instr.fill (fun j => some (j * i.size, i.size)) ((Array.range (len * i.size)).map ((if len * i.size = 0 then (#[] : Array Value) else zv.cells)[· % (if len * i.size = 0 then (#[] : Array Value) else zv.cells).size]!)) ((parts.map fun (j, x) => (j, a.eval x)).toList) = some A := by
                  rw [Array.toList_map]
                  by_cases h0 : len * i.size = 0
                  · rw [h0] at r1 ⊢
                    have e0 : ((Array.range 0).map fun x => (if (0:Nat) = 0 then (#[] : Array Value) else zv.cells)[x % (if (0:Nat) = 0 then (#[] : Array Value) else zv.cells).size]!) = (Array.range 0).map (zv.cells[· % zv.cells.size]!) := by simp
                    rw [e0]
                    exact r1
                  · simp only [if_neg h0]
                    exact r1
                simp only [execOp, Instr.buildSlice, Sem.run_bind, run_underlying hk, Result.andThen_ok, sizeOf_run hinf, hsz, if_neg hnz]
                by_cases h0 : len * i.size = 0
                · simp only [h0, if_true] at hfill ⊢
                  simp only [Sem.run_pure, Result.andThen_ok, Sem.run_bind, hfill]
                  simp [newRow]
                · simp only [h0, if_false] at hfill ⊢
                  simp only [Sem.run_bind, zero_run hinf hz, Sem.run_pure, Result.andThen_ok, hfill]
                  simp [newRow]
              cases hdat : E.dat with
              | true =>
                rw [hdat] at h
                have hnot : ¬ Owned g s.h w.heap.size := fun ho => Nat.lt_irrefl _ (hd.lt ho)
                have hB := B.alloc' w (.cells A e)
                have hsz' : (w.alloc (.cells A e)).heap.size = w.heap.size + 1 := by simp
                refine .inl ⟨_, w.alloc (.cells A e), fun x => I x ∨ x = w.heap.size, g, _, s, .inl hrun, rfl, ⟨(hd.later hB).inns (fun _ h => .inl h) (fun x hx => ?_) (fun x hx => ?_), Ext.of_B hB, fun _ h => .inl h, fun x hx => ?_, fun _ _ h => h, fun _ _ _ => rfl, fun q ao' p' b2 hq h1 h2 h3 => ⟨ao', h1, h3⟩, fun q ao' p' b2 hq h1 h2 h3 => by have := (List.getElem?_eq_some_iff.1 h1).1; omega⟩, .rd (Dr.of_row hnew (r2'.mono (fun _ h => .inl h)) c3 r3 (fun b hb => ?_)), h⟩
                · rw [hsz']
                  rcases hx with e | e
                  · have := hd.inn x e; omega
                  · omega
                · rcases hx with e | e
                  · intro ho
                    obtain ⟨o, ao, p, a1, a2, a3⟩ := ho
                    exact hd.own o ao p x a1 a2 a3 e
                  · subst e; exact hnot
                · rcases hx with e | e
                  · exact .inl e
                  · right; right; omega
                · right
                  simpa [Value.ownBlock] using hb.symm
              | false =>
                rw [hdat] at h
                refine .inl ⟨.slice (some ⟨w.heap.size, 0, none⟩) len len, w.alloc (.cells A e), I, g ++ [(some w.heap.size, .slice (some ⟨w.heap.size, 0, none⟩) len len)], .row s.h.length, { s with h := s.h ++ [.row e i.size xs] }, .inl hrun, rfl, Af.push hd (B.alloc' _ _) (p := (some w.heap.size, .slice (some ⟨w.heap.size, 0, none⟩) len len)) (ao := .row e i.size xs) ⟨some ⟨w.heap.size, 0, none⟩, len, A.toList, by rw [c2], hnew, rfl, r2', c3, r3⟩ (fun b hb => by
                  have : some w.heap.size = some b := hb
                  injection this with this
                  omega), Vr.newRow hd, h⟩
            · exact h.elim
          · exact h.elim
      · exact h.elim
    · exact h.elim
  · -- convert
    rename_i src dst' x
    split at h
    · rename_i sz by_ z sz' by' z' e b hs hdst hx
      split at h
      · rename_i sz2 by2 z2 he
        obtain ⟨hbig, h⟩ := h
        have hv := hev x; rw [hx] at hv
        have k1 := kind_str htb hs
        have k2 := kind_slice htb hdst
        have k3 := kind_int htb he
        have hB : B w (Lib.bytesWorld w e (bstr b)) := ⟨rfl, rfl, rfl, by rw [Lib.bytesWorld_size]; omega, fun j hj => Lib.bytesWorld_at_old w e (bstr b) j hj⟩
        have hcap1 : b.length ≤ grownCap w (bstr b).size 0 e := by have := grownCap_ge w (bstr b).size 0 e; rw [bstr_sz] at this ⊢; exact this
        have hcap2 : grownCap w (bstr b).size 0 e ≤ maxLen := grownCap_le_maxLen w _ 0 e (by rw [bstr_sz]; unfold maxLen; omega)
        have hbs : Bs (Lib.bytesWorld w e (bstr b)) (.slice (some ⟨w.heap.size, 0, none⟩) b.length (grownCap w (bstr b).size 0 e)) b := by
          refine ⟨⟨some ⟨w.heap.size, 0, none⟩, _, rfl, fun e => (by cases e), hcap1, hcap2, fun ad had => ?_⟩, hbig⟩
          cases had
          refine ⟨fun _ => by rw [Lib.bytesWorld_size]; exact Nat.lt_succ_self _, fun j u hu => ?_⟩
          have hj : j < b.length := by
            rcases Nat.lt_or_ge j b.length with h | h
            · exact h
            · rw [List.getElem?_eq_none (by rw [cellsB_len]; exact h)] at hu; cases hu
          rw [cellsB_get b j hj] at hu
          injection hu with hu
          subst hu
          rw [Addr.add_mid, Nat.zero_add, Lib.bytesWorld_cell w e (bstr b) j (by rw [bstr_sz]; exact hj)]
          simp [bstr, List.getD, hj]
        have hnot : ¬ Owned g s.h w.heap.size := fun ho => Nat.lt_irrefl _ (hd.lt ho)
        refine .inl ⟨_, Lib.bytesWorld w e (bstr b), fun x => I x ∨ x = w.heap.size, g, _, s, .inl ?_, rfl, ⟨(hd.later hB).inns (fun _ h => .inl h) (fun x hx => ?_) (fun x hx => ?_), Ext.of_B hB, fun _ h => .inl h, fun x hx => ?_, fun _ _ h => h, fun _ _ _ => rfl, fun q ao' p' b2 hq h1 h2 h3 => ⟨ao', h1, h3⟩, fun q ao' p' b2 hq h1 h2 h3 => by have := (List.getElem?_eq_some_iff.1 h1).1; omega⟩, .rd (hbs.dr (fun q hq _ => ?_)), h⟩
        · have := Lib.run_convert_string_bytes (P := P) w src dst' e (bstr b) k1 k2 k3
          rw [bstr_sz] at this
          simp only [execOp, hv.str_inv, Sem.run_bind, this, bstr_sz]
          rfl
        · rw [Lib.bytesWorld_size]
          rcases hx with e | e
          · have := hd.inn x e; omega
          · omega
        · rcases hx with e | e
          · intro ho
            obtain ⟨o, ao, p, a1, a2, a3⟩ := ho
            exact hd.own o ao p x a1 a2 a3 e
          · subst e; exact hnot
        · rcases hx with e | e
          · exact .inl e
          · right; right; omega
        · right
          simpa [Value.ownBlock] using hq.symm
      · exact h.elim
    · exact h.elim
  · -- append
    rename_i args ts
    split at h
    · rename_i x y t t' hargs hts
      have ha : args = #[x, y] := Array.toList_inj.1 hargs
      have ht : ts = #[t, t'] := Array.toList_inj.1 hts
      subst ha ht
      cases htt : Nat.beq t t' with
      | false => rw [htt] at h; exact h.elim
      | true =>
        rw [htt] at h
        cases Nat.eq_of_beq_eq_true htt
        simp only [cond_true] at h
        split at h
        · rename_i sz by_ z e hl
          split at h
          · rename_i i hi
            cases hb : Nat.blt 0 i.size with
            | false => rw [hb] at h; exact h.elim
            | true =>
              rw [hb] at h
              simp only [cond_true] at h
              have hpos : 0 < i.size := Nat.le_of_ble_eq_true hb
              split at h
              case h_2 => exact h.elim
              rename_i ys hy
              obtain ⟨news, hrd, g1, hnv, hys⟩ := rowsD_ok hd hpos (hev y) hy
              split at h
              · rename_i hx
                obtain ⟨⟨c1, c2⟩, h⟩ := h
                have hv := hev x; rw [hx] at hv
                have ex := hv.nils_inv
                obtain ⟨v', w', r1, r2, r3, ⟨qa, ql, qc, r4⟩, r5⟩ := appd_ok hd htb hl hi (xs := []) (vs := []) hpos hrd g1 hnv hys (ownNil w 0 e i.size) .nil (by simp) (by simp) (fun b hb => by simp [Value.ownBlock] at hb) (by simpa using c1) (by simpa using c2) ty
                have hB : B w w' := (Ext.refl (fun _ => False) w).grown r2 (fun g hg => by simp [Value.ownBlock] at hg) |>.to_B (fun _ _ => id)
                refine .inl ⟨v', w', I, g ++ [(v'.ownBlock, v')], .row s.h.length, { s with h := s.h ++ [.row e i.size ys] }, .inl ?_, rfl, ⟨by simpa using r3, Ext.of_B hB, fun _ h => h, fun _ h => .inl h, fun _ _ h => get_old h, fun q hq _ => List.getElem?_append_left hq, fun q ao' p' b hq h1 h2 h3 => ⟨ao', by rw [← h1]; exact (List.getElem?_append_left hq).symm, h3⟩, fun q ao' p' b hq h1 h2 h3 => ?_⟩, ?_, h⟩
                · simp only [execOp, resolve, invoke, builtin, Sem.run_bind, Sem.run_pure, Result.andThen_ok, List.map_toArray, List.map_cons, List.map_nil, ex, r1]
                · rcases get_push h1 with ⟨e1, _⟩ | ⟨e1, k1⟩
                  · omega
                  · rcases get_push h2 with ⟨e2, _⟩ | ⟨e2, k2⟩
                    · have := hd.len; omega
                    · subst k1 k2
                      right
                      have hb' : v'.ownBlock = some b := h3
                      rcases r5 with e5 | e5
                      · rw [e5] at hb'; simp [Value.ownBlock] at hb'
                      · rw [e5] at hb'; injection hb' with hb'; omega
                · rw [r4]
                  exact .row _ (Value.slice qa ql qc).ownBlock _ _ _ (by rw [← hd.len]; exact getD_len _ _)
              · rename_i o hx
                split at h
                · rename_i e' n' xs hh
                  cases hb2 : Nat.beq e e' && Nat.beq i.size n' with
                  | false => rw [hb2] at h; exact h.elim
                  | true =>
                    rw [hb2] at h
                    rw [Bool.and_eq_true] at hb2
                    simp only [cond_true] at h
                    cases Nat.eq_of_beq_eq_true hb2.1
                    cases Nat.eq_of_beq_eq_true hb2.2
                    obtain ⟨⟨c1, c2⟩, h⟩ := h
                    have hv := hev x; rw [hx] at hv
                    obtain ⟨bo, ra, rl, rc, hg, ex⟩ := hv.row_inv
                    have hlc := lh_row hh
                    obtain ⟨a', c', vs, hp, hown, hbo, hvs, hlen, h1⟩ := hd.obj o _ _ hlc hg
                    have hbo' : bo = (Value.slice ra rl rc).ownBlock := hbo
                    have hdd := hd.drop o
                    have hOw : ∀ b, (Value.slice ra rl rc).ownBlock = some b → ¬ I b ∧ ¬ Owned g (s.h.set o .gone) b := by
                      intro b hb
                      have ho : (AO.row e i.size xs).owns (bo, .slice ra rl rc) b := by show bo = some b; rw [hbo']; exact hb
                      refine ⟨fun hI => hd.own o _ _ b hlc hg ho hI, fun hO => ?_⟩
                      obtain ⟨o2, ao2, p2, q1, q2, q3⟩ := hO
                      rw [List.getElem?_set] at q1
                      split at q1
                      · split at q1
                        · injection q1 with q1; subst q1; exact q3
                        · cases q1
                      · rename_i hne
                        exact hne (hd.sep o o2 _ ao2 _ p2 b hlc q1 hg q2 ho q3)
                    obtain ⟨v', w', r1, r2, r3, ⟨qa, ql, qc, r4⟩, r5⟩ := appd_ok hdd htb hl hi hpos hrd g1 hnv hys hown hvs hlen h1 hOw c1 c2 ty
                    have hmods : modsOf (.call ⟨.builtin .append, #[x, y], #[t, t]⟩) s = [o] := by simp [modsOf, hx]
                    have hE : Ext (OwnedIn [o] g s.h) w w' := (Ext.refl _ w).grown r2 (fun b hb _ => ⟨o, _, _, by simp, hlc, hg, by show bo = some b; rw [hbo']; exact hb⟩)
                    refine .inl ⟨v', w', I, g ++ [(v'.ownBlock, v')], .row s.h.length, { s with h := sh s.h o .gone ++ [.row e i.size (xs ++ ys)] }, .inl ?_, rfl, ⟨by simp only [sh_eq]; exact r3, by simp only [hmods]; exact hE, fun _ h => h, fun _ h => .inl h, fun _ _ h => get_old h, fun q hq hn => ?_, fun q ao' p' b hq h1 h2 h3 => ?_, fun q ao' p' b hq h1 h2 h3 => ?_⟩, ?_, h⟩
                    · simp only [execOp, resolve, invoke, builtin, Sem.run_bind, Sem.run_pure, Result.andThen_ok, List.map_toArray, List.map_cons, List.map_nil, ex, r1]
                    · simp only [hmods, List.mem_singleton] at hn
                      show (sh s.h o .gone ++ _)[q]? = _
                      rw [sh_eq, List.getElem?_append_left (by simpa using hq), List.getElem?_set_ne (Ne.symm hn)]
                    · replace h1 : (sh s.h o .gone ++ [AO.row e i.size (xs ++ ys)])[q]? = some ao' := h1
                      rw [sh_eq, List.getElem?_append_left (by simpa using hq), List.getElem?_set] at h1
                      split at h1
                      · split at h1
                        · injection h1 with h1; subst h1; exact h3.elim
                        · cases h1
                      · exact ⟨ao', h1, h3⟩
                    · replace h1 : (sh s.h o .gone ++ [AO.row e i.size (xs ++ ys)])[q]? = some ao' := h1
                      rw [sh_eq] at h1
                      rcases get_push h1 with ⟨e1, _⟩ | ⟨e1, k1⟩
                      · simp at e1; omega
                      · rcases get_push h2 with ⟨e2, _⟩ | ⟨e2, k2⟩
                        · have := hd.len; omega
                        · subst k1 k2
                          have hb' : v'.ownBlock = some b := h3
                          rcases r5 with e5 | e5
                          · rw [e5] at hb'
                            left
                            simp only [hmods]
                            exact ⟨o, _, _, by simp, hlc, hg, by show bo = some b; rw [hbo']; exact hb'⟩
                          · rw [e5] at hb'; injection hb' with hb'; right; omega
                    · rw [r4]
                      exact .row _ (Value.slice qa ql qc).ownBlock _ _ _ (by rw [← hd.len]; exact getD_len _ _)
                · exact h.elim
              · exact h.elim
          · exact h.elim
        · exact h.elim
    · exact h.elim
  · -- call
    rename_i f args ts
    split at h
    · rename_i gf caps hf
      obtain ⟨Post, hF, hk⟩ := h
      have hv := hev f; rw [hf] at hv
      obtain ⟨cvs, ef, hcv⟩ := hv.fn_inv
      have hargs : Vrs I g w (args.toList.map a.eval ++ cvs) (args.toList.map (ev s) ++ caps) := by
        refine Vrs.append ⟨by simp, fun i v d h1 h2 => ?_⟩ hcv
        rw [List.getElem?_map] at h1 h2
        cases hq : args.toList[i]? with
        | none => rw [hq] at h1; cases h1
        | some x =>
          rw [hq] at h1 h2
          injection h1 with h1; injection h2 with h2
          subst h1 h2
          exact hev x
      have hc := hF.2 w I g _ hd hargs
      have hmods : modsOf (.call ⟨.value f, args, ts⟩) s = foot s.h (args.toList.map (ev s) ++ caps) := by simp [modsOf, hf]
      refine .inr ⟨gf, _, ?_, hc.mono (fun e w' hR => ?_)⟩
      · have harr : args.map a.eval ++ cvs.toArray = (args.toList.map a.eval ++ cvs).toArray := by
          apply Array.toList_inj.1
          simp
        simp only [execOp, resolve, ef, Deferred.ofValue, Sem.run_bind, Sem.run_pure, Result.andThen_ok, invoke, Array.empty_append, harr, callFunc_run hF.1]
      · obtain ⟨v, I', g', r, h', rfl, hp, q1, q2⟩ := hR
        exact ⟨v, I', g', r, h', rfl, by simp only [hmods]; exact q1, q2, hk r h' hp⟩
    · exact h.elim
  · exact h.elim
end
end Go.Proofs.YtbbcepmhkocgbaaGreatDoor

/- Walks computed: the state of a call beside its memory (Inv); an operation, under its guard; a region in the order of its text. No program here. -/
namespace Go.Proofs.YtbbcepmhkocgbaaGreatDoor
open Go.RowKit
set_option linter.unusedVariables false

/-- where a call began -/
structure Cx where
  w0 : World
  I0 : Nat → Prop
  g0 : Ghost
  h0 : List AO
  n : Nat
/-- the state at hand is the data s -/
structure Inv (C : Cx) (I : Nat → Prop) (g : Ghost) (s : S) (a : Act) (w : World) : Prop where
  den : Den I g w s.h
  tmp : ∀ j, Vr I g w (a.tmps.getD j undef) (lk s.t j)
  sz : a.tmps.size = C.n
  dfr : a.defers = []
  ext : Ext (Owned C.g0 C.h0) C.w0 w
  i1 : ∀ b, C.I0 b → I b
  i2 : ∀ b, I b → C.I0 b ∨ Owned C.g0 C.h0 b ∨ C.w0.heap.size ≤ b
  ow : ∀ b, Owned g s.h b → Owned C.g0 C.h0 b ∨ C.w0.heap.size ≤ b
  gk : ∀ (o : Nat) p t cs, C.g0[o]? = some p → C.h0[o]? = some (.cells t cs) → g[o]? = some p
def IInv (C : Cx) (s : S) (a : Act) (w : World) : Prop := ∃ I g, Inv C I g s a w
section
variable {P : Program} {Q : Exit → S → Prop} {C : Cx} {I I' : Nat → Prop} {g g' : Ghost} {s s' : S} {a : Act} {w w' : World}
theorem Inv.ev (h : Inv C I g s a w) (x : Operand) : Vr I g w (a.eval x) (ev s x) := ev_ok h.tmp x
theorem Inv.step {M : List Nat} (h : Inv C I g s a w) (ht : s'.t = s.t) (k : Af I g w s.h M I' g' w' s'.h) : Inv C I' g' s' a w' where
  den := k.den
  tmp j := by
    rw [ht]
    exact ((h.tmp j).ext k.ext (fun b hb ho => by
      obtain ⟨o, ao, p, _, h1, h2, h3⟩ := ho
      exact h.den.own o ao p b h1 h2 h3 hb)).mono k.i1 k.gx
  sz := h.sz
  dfr := h.dfr
  ext := h.ext.trans k.ext (fun x hx ho => by
    rcases h.ow x ho.owned with e | e
    · exact e
    · omega)
  i1 b hb := k.i1 b (h.i1 b hb)
  i2 b hb := by
    have hsz := h.ext.size
    rcases k.i2 b hb with e | e | e
    · exact h.i2 b e
    · right; exact h.ow b e.owned
    · right; right; omega
  ow b hb := by
    have hsz := h.ext.size
    rcases k.ow h.den.len b hb with e | e
    · exact h.ow b e
    · right; omega
  gk o p t cs h1 h2 := k.gx o p (h.gk o p t cs h1 h2)
theorem put_tmps (a : Act) (d : Option Tmp) (v : Value) : (a.put d v).tmps.size = a.tmps.size := by
  cases d <;> simp [Act.put]
theorem put_defers (a : Act) (d : Option Tmp) (v : Value) : (a.put d v).defers = a.defers := by
  cases d <;> rfl
theorem Inv.put {E : En} (hE : E.n = C.n) (h : Inv C I g s a w) {v : Value} {d : D} (hv : Vr I g w v d) {dst : Option Tmp} {k : S → T} (hk : (put E dst d s k).ok P Q) : ∃ s', s'.h = s.h ∧ Inv C I g s' (a.put dst v) w ∧ (k s').ok P Q := by
  cases dst with
  | none => exact ⟨s, rfl, h, hk⟩
  | some j =>
    simp only [Go.Proofs.YtbbcepmhkocgbaaGreatDoor.put] at hk
    cases hj : Nat.blt j E.n with
    | false => rw [hj] at hk; exact hk.elim
    | true =>
      rw [hj] at hk
      simp only [cond_true, force_eq] at hk
      replace hk : (k { s with t := (j, d) :: s.t }).ok P Q := by cases s; exact hk
      have hlt : j < a.tmps.size := by rw [h.sz, ← hE]; exact Nat.le_of_ble_eq_true hj
      refine ⟨{ s with t := (j, d) :: s.t }, rfl, ⟨h.den, fun i => ?_, by rw [put_tmps]; exact h.sz, by rw [put_defers]; exact h.dfr, h.ext, h.i1, h.i2, h.ow, h.gk⟩, hk⟩
      simp only [lk, Act.put]
      by_cases hij : i = j
      · subst hij
        have : Nat.beq i i = true := Nat.beq_refl i
        rw [this]
        simp [hlt]
        exact hv
      · have : Nat.beq i j = false := by
          cases hb : Nat.beq i j with
          | false => rfl
          | true => exact absurd (Nat.eq_of_beq_eq_true hb) hij
        rw [this]
        have e : (a.tmps.setIfInBounds j v).getD i undef = a.tmps.getD i undef := by
          simp only [Array.getD_eq_getD_getElem?]
          rw [Array.getElem?_setIfInBounds_ne (Ne.symm hij)]
        rw [e]
        exact h.tmp i
/-- what an operation leads to -/
theorem exec1_wp {E : En} (htb : E.tb.ok P) (hE : E.n = C.n) (h : Inv C I g s a w) {o : Oper} {k : S → T} (hk : (exec1 E o.op o.type s (fun d s' => put E o.dst d s' k)).ok P Q) {K : Act → World → Prop} {Qc : Exit → Act → World → Prop} (hK : ∀ s' a' w', IInv C s' a' w' → (k s').ok P Q → K a' w') : o.wp P a w K Qc := by
  unfold exec1 at hk
  cases hw : isW E o.op s with
  | true =>
    rw [hw] at hk
    simp only [cond_true] at hk
    rcases execW_ok htb h.ev h.den (o := o) hk with ⟨v, w', I', g', d, s', hr, ht, ha, hv, hk'⟩ | ⟨f, vs, hr, hc⟩
    · have hi := h.step ht ha
      obtain ⟨s2, _, h2, hk2⟩ := hi.put hE hv hk'
      unfold Oper.wp
      rcases hr with hr | ⟨hr, rfl⟩
      · rw [hr]; exact hK _ _ _ ⟨_, _, h2⟩ hk2
      · rw [hr]; exact hK _ _ _ ⟨_, _, h2⟩ hk2
    · unfold Oper.wp
      rw [hr]
      refine hc.mono (fun e w' hR => ?_)
      obtain ⟨v, I', g', d, h', rfl, ha, hv, hk'⟩ := hR
      have hi := h.step (s' := { s with h := h' }) rfl ha
      obtain ⟨s2, _, h2, hk2⟩ := hi.put hE hv hk'
      exact hK _ _ _ ⟨_, _, h2⟩ hk2
  | false =>
    rw [hw] at hk
    simp only [cond_false] at hk
    cases hl : isL E o.op s with
    | true =>
      rw [hl] at hk
      simp only [cond_true] at hk
      obtain ⟨v, d, hr, hv, hk'⟩ := execL_ok htb h.ev h.den (o := o) hk
      obtain ⟨s2, _, h2, hk2⟩ := h.put hE hv hk'
      unfold Oper.wp
      rw [hr w (fun _ _ _ => rfl) (fun _ _ _ _ _ _ _ _ => rfl)]
      exact hK _ _ _ ⟨_, _, h2⟩ hk2
    | false =>
      rw [hl] at hk
      simp only [cond_false] at hk
      obtain ⟨v, d, hr, hv, hk'⟩ := execP_ok htb h.ev h.den (o := o) hk
      obtain ⟨s2, _, h2, hk2⟩ := h.put hE hv hk'
      unfold Oper.wp
      rw [hr w]
      exact hK _ _ _ ⟨_, _, h2⟩ hk2
def lop : List Oper → Nat → Option Oper
  | [], _ => none
  | o :: _, 0 => some o
  | _ :: l, n + 1 => lop l n
theorem lop_get : ∀ (l : List Oper) (n : Nat), lop l n = l[n]?
  | [], _ => by simp [lop]
  | d :: _, 0 => by simp [lop]
  | _ :: l, n + 1 => by simp [lop, lop_get l n]
/-- is an operation wanted? some b: b tells; none: it cannot be told -/
def guardD (ops : List Oper) (o : Oper) (s : S) : Option Bool :=
  match o.guard with
  | none => some true
  | some (j, want) => match lop ops j with
    | some ⟨some t, _, _, _, _, _⟩ => match lk s.t t with
      | .bool b => some (b == want)
      | .tup _ => some false
      | _ => none
    | _ => none
theorem guardD_ok (h : Inv C I g s a w) {ops : Array Oper} {o : Oper} {b : Bool} (hg : guardD ops.toList o s = some b) : Region.wanted o (yielded ops a.tmps) = b := by
  unfold guardD at hg
  unfold Region.wanted
  split at hg
  · rename_i e
    injection hg with hg
    subst hg
    rw [e]
  · rename_i j want e
    rw [e]
    simp only
    split at hg
    · rename_i t _ _ _ _ _ hl
      rw [lop_get, Array.getElem?_toList] at hl
      have hv := h.tmp t
      split at hg
      · rename_i b' hb
        injection hg with hg
        subst hg
        rw [hb] at hv
        have e2 := hv.bool_inv
        have e3 : a.tmps[t]? = some (.bool b') := by
          cases hq : a.tmps[t]? with
          | none => rw [Array.getD_eq_getD_getElem?, hq] at e2; cases e2
          | some u => rw [Array.getD_eq_getD_getElem?, hq] at e2; simp at e2; rw [e2]
        simp [yielded, hl, e3]
      · rename_i ds hb
        injection hg with hg
        subst hg
        rw [hb] at hv
        obtain ⟨vs, e2, _⟩ := hv.tup_inv
        cases hq : a.tmps[t]? with
        | none => simp [yielded, hl, hq]
        | some u =>
          rw [Array.getD_eq_getD_getElem?, hq] at e2
          simp at e2
          subst e2
          simp [yielded, hl, hq]
      · cases hg
    · cases hg
/-- what a test has told: the temporary holds the truth -/
def lit (ops : List Oper) (s : S) (j : Nat) (v : Bool) : S :=
  match lop ops j with
  | some ⟨some t, _, _, _, _, _⟩ => match lk s.t t with
    | .bool _ => (match s with | ⟨l, h⟩ => ⟨(t, .bool v) :: l, h⟩)
    | _ => s
  | _ => s
theorem lit_ok (h : Inv C I g s a w) {ops : Array Oper} {o : Oper} {j : Nat} {want b : Bool} (hg : o.guard = some (j, want)) (hb : guardD ops.toList o s = some b) : Inv C I g (lit ops.toList s j (if b then want else !want)) a w ∧ (lit ops.toList s j (if b then want else !want)).h = s.h := by
  unfold guardD at hb
  rw [hg] at hb
  simp only at hb
  unfold lit
  split at hb
  · rename_i t _ _ _ _ _ hl
    simp only [hl]
    cases hq : lk s.t t with
    | bool b' =>
      rw [hq] at hb
      simp only at hb
      injection hb with hb
      have hv : b' = (if b then want else !want) := by
        subst hb
        cases b' <;> cases want <;> rfl
      have key : ∀ i, Vr I g w (a.tmps.getD i undef) (lk ((t, .bool (if b then want else !want)) :: s.t) i) := by
        intro i
        simp only [lk]
        cases hbi : Nat.beq i t with
        | true =>
          have e := Nat.eq_of_beq_eq_true hbi
          have := h.tmp t
          rw [hq, hv] at this
          rw [e]
          exact this
        | false => exact h.tmp i
      cases s with
      | mk l hh => exact ⟨⟨h.den, key, h.sz, h.dfr, h.ext, h.i1, h.i2, h.ow, h.gk⟩, rfl⟩
    | _ => exact ⟨h, rfl⟩
  · cases hb
def execG (E : En) (ops : List Oper) (o : Oper) (s : S) (k : S → T) : T :=
  match o.guard with
  | none => exec1 E o.op o.type s (fun d s' => put E o.dst d s' k)
  | some (j, want) => match guardD ops o s with
    | some b => .br b (exec1 E o.op o.type (lit ops s j want) (fun d s' => put E o.dst d s' k)) (put E o.dst (.tup []) (lit ops s j (!want)) k)
    | none => .fail 50
def execR (E : En) (ops : List Oper) : List Oper → S → (S → T) → T
  | [], s, k => k s
  | o :: r, s, k => execG E ops o s (fun s' => execR E ops r s' k)
theorem execR_wp {E : En} (htb : E.tb.ok P) (hE : E.n = C.n) {ops : Array Oper} {Qc : Exit → Act → World → Prop} {k : S → T} (hK : ∀ s' a' w', IInv C s' a' w' → (k s').ok P Q → Qc .normal a' w') :
    ∀ (l : List Oper) (s : S) (a : Act) (w : World), IInv C s a w → (execR E ops.toList l s k).ok P Q → wpList P ops Qc l a w
  | [], s, a, w, h, hk => hK _ _ _ h hk
  | o :: r, s, a, w, ⟨I, g, h⟩, hk => by
    simp only [execR, execG] at hk
    unfold wpList
    split at hk
    · rename_i e
      have hw : Region.wanted o (yielded ops a.tmps) = true := by unfold Region.wanted; rw [e]
      rw [if_pos hw]
      exact .inl (exec1_wp htb hE h hk (fun s' a' w' h' hk' => execR_wp htb hE hK r s' a' w' h' hk'))
    · rename_i j want e
      split at hk
      · rename_i b hb
        have hw := guardD_ok h hb
        rw [hw]
        have hlt := (lit_ok h e hb).1
        cases b with
        | true =>
          rw [if_pos rfl]
          exact .inl (exec1_wp htb hE hlt (hk.1 rfl) (fun s' a' w' h' hk' => execR_wp htb hE hK r s' a' w' h' hk'))
        | false =>
          rw [if_neg (by simp)]
          obtain ⟨s2, _, h2, hk2⟩ := hlt.put hE .undef (hk.2 rfl)
          exact execR_wp htb hE hK r _ _ _ ⟨_, _, h2⟩ hk2
      · exact hk.elim
end
end Go.Proofs.YtbbcepmhkocgbaaGreatDoor

/- Walks computed: a region that draws its order, by a plan: what only computes or reads is taken first, what changes memory comes where nothing else may. No program here. -/
namespace Go.Proofs.YtbbcepmhkocgbaaGreatDoor
open Go.RowKit
set_option linter.unusedVariables false

def alive (h : List AO) (o : Nat) : Bool :=
  match lh h o with
  | .gone => false
  | _ => true
/-- the objects that are changed are of md, or new -/
def modsIn (hr : List AO) (md : List Nat) (ms : List Nat) : Bool := ms.all fun m => md.elem m || Nat.ble hr.length m
/-- may it be read first? -/
def loadOk (hr : List AO) (md : List Nat) (gr : Bool) (op : Op) (s : S) : Bool :=
  match readsOf op s with
  | some o => Nat.blt o hr.length && !md.elem o
  | none => !gr
/-- the plan may be: where something comes alone nothing else may come up; what is taken first is apart from the others -/
def planOk (ops : Array Oper) : List (Nat × Bool) → Array Bool → Bool
  | [], L => (Region.ready .any ops L).isEmpty
  | (i, al) :: r, L => (match ops[i]? with
    | some o => if al then Region.ready .any ops L == [i] else Region.free .any ops L i && (Region.ready .any ops L).contains i
    | none => false) && planOk ops r (L.setIfInBounds i true)
def execA (E : En) (ops : List Oper) (hr : List AO) (md : List Nat) : List (Nat × Bool) → Bool → S → (S → T) → T
  | [], _, s, k => k s
  | (i, al) :: r, gr, s, k => match lop ops i with
    | none => .fail 60
    | some o => match guardD ops o s with
      | none => .fail 61
      | some b =>
        let body := fun s : S => bif al then (bif modsIn hr md (modsOf o.op s) then exec1 E o.op o.type s (fun d s' => put E o.dst d s' fun s' => execA E ops hr md r true s' k) else .fail 62)
          else bif isW E o.op s then .fail 63
          else bif isL E o.op s then (bif loadOk hr md gr o.op s then execL E o.op s (fun d => put E o.dst d s fun s' => execA E ops hr md r gr s' k) else .fail 64)
          else execP E o.op s (fun d => put E o.dst d s fun s' => execA E ops hr md r gr s' k)
        match o.guard with
        | none => body s
        | some (j, want) => .br b (body (lit ops s j want)) (put E o.dst (.tup []) (lit ops s j (!want)) fun s' => execA E ops hr md r gr s' k)
section
variable {P : Program} {Q : Exit → S → Prop} {C : Cx}
/-- what holds all through a region: Ir, gr0, wr, hr at its start -/
structure Reg (Ir : Nat → Prop) (g0 : Ghost) (wr : World) (hr : List AO) (md : List Nat) (gr : Bool) (I : Nat → Prop) (g : Ghost) (h : List AO) (w : World) : Prop where
  ext : Ext (OwnedIn md g0 hr) wr w
  gx : ∀ (o : Nat) p, g0[o]? = some p → g[o]? = some p
  ii : gr = false → ∀ b, I b → Ir b
  fr : ∀ o, o < hr.length → o ∉ md → h[o]? = hr[o]?
  len : hr.length ≤ h.length
  ob : ∀ (o : Nat) ao p b, (o ∈ md ∨ hr.length ≤ o) → h[o]? = some ao → g[o]? = some p → ao.owns p b → OwnedIn md g0 hr b ∨ wr.heap.size ≤ b
theorem modsIn_ok {hr : List AO} {md ms : List Nat} (h : modsIn hr md ms = true) : ∀ m ∈ ms, m ∈ md ∨ hr.length ≤ m := by
  intro m hm
  have := List.all_eq_true.1 h m hm
  rw [Bool.or_eq_true] at this
  rcases this with e | e
  · left; simpa using e
  · right; exact Nat.le_of_ble_eq_true e
theorem Reg.step {Ir : Nat → Prop} {g0 : Ghost} {wr : World} {hr : List AO} {md : List Nat} {gr : Bool} {I I' : Nat → Prop} {g g' : Ghost} {h h' : List AO} {w w' : World} {M : List Nat} (R : Reg Ir g0 wr hr md gr I g h w) (hd : Den I g w h) (hM : ∀ m ∈ M, m ∈ md ∨ hr.length ≤ m) (k : Af I g w h M I' g' w' h') : Reg Ir g0 wr hr md true I' g' h' w' where
  ext := R.ext.trans k.ext (fun x hx ho => by
    obtain ⟨o, ao, p, hm, h1, h2, h3⟩ := ho
    rcases R.ob o ao p x (hM o hm) h1 h2 h3 with e | e
    · exact e
    · omega)
  gx o p h0 := k.gx o p (R.gx o p h0)
  ii e := by cases e
  fr o ho hn := by
    have hlt : o < h.length := Nat.lt_of_lt_of_le ho R.len
    rw [k.fr o hlt (fun hm => by
      rcases hM o hm with e | e
      · exact hn e
      · omega)]
    exact R.fr o ho hn
  len := by
    rw [← k.den.len]
    rcases Nat.eq_zero_or_pos h.length with e | e
    · have := R.len; omega
    · have hg : g[h.length - 1]? = some (g[h.length - 1]'(by rw [hd.len]; omega)) := List.getElem?_eq_getElem _
      have := (List.getElem?_eq_some_iff.1 (k.gx _ _ hg)).1
      have := R.len
      omega
  ob o ao p b hm h1 h2 h3 := by
    have hsz := R.ext.size
    rcases Nat.lt_or_ge o h.length with hlt | hge
    · obtain ⟨ao0, e1, e2⟩ := k.al o ao p b hlt h1 h2 h3
      have hg : g[o]? = some (g[o]'(by rw [hd.len]; omega)) := List.getElem?_eq_getElem _
      have e3 := k.gx o _ hg
      rw [h2] at e3
      injection e3 with e3
      exact R.ob o ao0 p b hm e1 (by rw [hg, e3]) e2
    · rcases k.nw o ao p b hge h1 h2 h3 with e | e
      · obtain ⟨o2, ao2, p2, hm2, q1, q2, q3⟩ := e
        exact R.ob o2 ao2 p2 b (hM o2 hm2) q1 q2 q3
      · right; omega
theorem Reg.start {Ir : Nat → Prop} {g0 : Ghost} {wr : World} {hr : List AO} {md : List Nat} : Reg Ir g0 wr hr md false Ir g0 hr wr where
  ext := Ext.refl _ _
  gx _ _ h := h
  ii _ _ h := h
  fr _ _ _ := rfl
  len := Nat.le_refl _
  ob o ao p b hm h1 h2 h3 := by
    rcases hm with e | e
    · exact .inl ⟨o, ao, p, e, h1, h2, h3⟩
    · have := (List.getElem?_eq_some_iff.1 h1).1; omega
theorem Reg.weak {Ir : Nat → Prop} {g0 : Ghost} {wr : World} {hr : List AO} {md : List Nat} {gr : Bool} {I : Nat → Prop} {g : Ghost} {h : List AO} {w : World} (R : Reg Ir g0 wr hr md gr I g h w) : Reg Ir g0 wr hr md true I g h w := ⟨R.ext, R.gx, fun e => (by cases e), R.fr, R.len, R.ob⟩
theorem execA_wp {E : En} (htb : E.tb.ok P) (hE : E.n = C.n) {ops : Array Oper} {Qc : Exit → Act → World → Prop} (hsel : Region.noSelect ops = true) (hP : ∀ c a w d v, Qc (.panic c) (a.put d v) w → Qc (.panic c) a w) {k : S → T} (hK : ∀ s' a' w', IInv C s' a' w' → (k s').ok P Q → Qc .normal a' w')
    {Ir : Nat → Prop} {g0 : Ghost} {wr : World} {hr : List AO} {md : List Nat} (hdr : Den Ir g0 wr hr) :
    ∀ (pl : List (Nat × Bool)) (fuel : Nat) (L : Array Bool) (gr : Bool) (s : S) (a : Act) (w : World) (I : Nat → Prop) (g : Ghost), Inv C I g s a w → Reg Ir g0 wr hr md gr I g s.h w → planOk ops pl L = true → pl.length ≤ fuel → (execA E ops.toList hr md pl gr s k).ok P Q → wpAnyH P .any ops Qc (fun w' => Ext (OwnedIn md g0 hr) wr w') fuel L a w
  | [], fuel, L, gr, s, a, w, I, g, h, R, hp, hf, hk => by
    have hr : Region.ready .any ops L = [] := by
      simp only [planOk] at hp
      exact List.isEmpty_iff.1 hp
    exact wpAnyH_done hr (hK _ _ _ ⟨I, g, h⟩ hk) fuel
  | (i, al) :: r, 0, L, gr, s, a, w, I, g, h, R, hp, hf, hk => by simp at hf
  | (i, al) :: r, fuel + 1, L, gr, s, a, w, I, g, h, R, hp, hf, hk => by
    simp only [planOk, Bool.and_eq_true] at hp
    obtain ⟨hp1, hp2⟩ := hp
    have hf' : r.length ≤ fuel := by simp at hf; exact hf
    simp only [execA] at hk
    rw [lop_get, Array.getElem?_toList] at hk
    cases ho : ops[i]? with
    | none => rw [ho] at hk; exact hk.elim
    | some o =>
      rw [ho] at hk hp1
      simp only at hk hp1
      cases hg : guardD ops.toList o s with
      | none => rw [hg] at hk; exact hk.elim
      | some b =>
        rw [hg] at hk
        simp only at hk
        have hw := guardD_ok h hg
        -- where it is wanted
        have main : ∀ s1 : S, Inv C I g s1 a w → s1.h = s.h → b = true → (bif al then (bif modsIn hr md (modsOf o.op s1) then exec1 E o.op o.type s1 (fun d s' => put E o.dst d s' fun s' => execA E ops.toList hr md r true s' k) else .fail 62)
          else bif isW E o.op s1 then .fail 63
          else bif isL E o.op s1 then (bif loadOk hr md gr o.op s1 then execL E o.op s1 (fun d => put E o.dst d s1 fun s' => execA E ops.toList hr md r gr s' k) else .fail 64)
          else execP E o.op s1 (fun d => put E o.dst d s1 fun s' => execA E ops.toList hr md r gr s' k)).ok P Q → wpAnyH P .any ops Qc (fun w' => Ext (OwnedIn md g0 hr) wr w') (fuel + 1) L a w := by
          intro s1 h1 e1 hb hq
          subst hb
          cases al with
          | true =>
            simp only [cond_true] at hq
            simp only [if_true, beq_iff_eq] at hp1
            cases hm : modsIn hr md (modsOf o.op s1) with
            | false => rw [hm] at hq; exact hq.elim
            | true =>
              rw [hm] at hq
              simp only [cond_true] at hq
              have hM := modsIn_ok hm
              refine wpAnyH_all hp1 (by simp) (fun j hj => ?_)
              simp only [List.mem_singleton] at hj
              subst hj
              unfold Go.wpOp
              simp only [ho, hw, if_true]
              refine .inl ?_
              unfold exec1 at hq
              cases hW : isW E o.op s1 with
              | true =>
                rw [hW] at hq
                simp only [cond_true] at hq
                rcases execW_ok htb h1.ev h1.den (o := o) hq with ⟨v, w', I', g', d, s', hrn, ht, ha, hv, hk'⟩ | ⟨f, vs, hrn, hc⟩
                · have R' := (show Reg Ir g0 wr hr md gr I g s1.h w from by rw [e1]; exact R).step h1.den hM ha
                  obtain ⟨s2, hs2, h2, hk2⟩ := (h1.step ht ha).put hE hv hk'
                  unfold Oper.wp
                  rcases hrn with hrn | ⟨hrn, rfl⟩
                  · rw [hrn]; exact ⟨R'.ext, execA_wp htb hE hsel hP hK hdr r fuel _ true s2 _ w' I' g' h2 (by rw [hs2]; exact R') hp2 hf' hk2⟩
                  · rw [hrn]; exact ⟨R'.ext, execA_wp htb hE hsel hP hK hdr r fuel _ true s2 _ w' I' g' h2 (by rw [hs2]; exact R') hp2 hf' hk2⟩
                · unfold Oper.wp
                  rw [hrn]
                  refine hc.mono (fun e w' hR => ?_)
                  obtain ⟨v, I', g', d, h', rfl, ha, hv, hk'⟩ := hR
                  have R' := (show Reg Ir g0 wr hr md gr I g s1.h w from by rw [e1]; exact R).step h1.den hM ha
                  obtain ⟨s2, hs2, h2, hk2⟩ := (h1.step (s' := { s1 with h := h' }) rfl ha).put hE hv hk'
                  exact ⟨R'.ext, execA_wp htb hE hsel hP hK hdr r fuel _ true s2 _ w' I' g' h2 (by rw [hs2]; exact R') hp2 hf' hk2⟩
              | false =>
                rw [hW] at hq
                simp only [cond_false] at hq
                have rest : ∀ v d, (execOp a.eval o).run P w = .ok (.value v) w → Vr I g w v d → (put E o.dst d s1 fun s' => execA E ops.toList hr md r true s' k).ok P Q → o.wp P a w (fun a' w' => Ext (OwnedIn md g0 hr) wr w' ∧ wpAnyH P .any ops Qc (fun w' => Ext (OwnedIn md g0 hr) wr w') fuel (L.setIfInBounds j true) a' w') Qc := by
                  intro v d hrn hv hk'
                  obtain ⟨s2, hs2, h2, hk2⟩ := h1.put hE hv hk'
                  unfold Oper.wp
                  rw [hrn]
                  exact ⟨R.ext, execA_wp htb hE hsel hP hK hdr r fuel _ true s2 _ w I g h2 (by rw [hs2, e1]; exact R.weak) hp2 hf' hk2⟩
                cases hL : isL E o.op s1 with
                | true =>
                  rw [hL] at hq
                  simp only [cond_true] at hq
                  obtain ⟨v, d, hrn, hv, hk'⟩ := execL_ok htb h1.ev h1.den (o := o) hq
                  exact rest v d (hrn w (fun _ _ _ => rfl) (fun _ _ _ _ _ _ _ _ => rfl)) hv hk'
                | false =>
                  rw [hL] at hq
                  simp only [cond_false] at hq
                  obtain ⟨v, d, hrn, hv, hk'⟩ := execP_ok htb h1.ev h1.den (o := o) hq
                  exact rest v d (hrn w) hv hk'
          | false =>
            simp only [cond_false] at hq
            simp only [Bool.false_eq_true, if_false, Bool.and_eq_true] at hp1
            cases hW : isW E o.op s1 with
            | true => rw [hW] at hq; exact hq.elim
            | false =>
              rw [hW] at hq
              simp only [cond_false] at hq
              have rest : ∀ v d, (∀ w', Ext (OwnedIn md g0 hr) wr w' → (execOp a.eval o).run P w' = .ok (.value v) w') → Vr I g w v d → (put E o.dst d s1 fun s' => execA E ops.toList hr md r gr s' k).ok P Q → wpAnyH P .any ops Qc (fun w' => Ext (OwnedIn md g0 hr) wr w') (fuel + 1) L a w := by
                intro v d hrn hv hk'
                obtain ⟨s2, hs2, h2, hk2⟩ := h1.put hE hv hk'
                refine wpAnyH_take ho hsel hp1.1 hp1.2 (fun c a w => hP c a w _ _) (.inl ⟨hw, hrn⟩) R.ext ?_
                exact execA_wp htb hE hsel hP hK hdr r fuel _ gr s2 _ w I g h2 (by rw [hs2, e1]; exact R) hp2 hf' hk2
              cases hL : isL E o.op s1 with
              | true =>
                rw [hL] at hq
                simp only [cond_true] at hq
                cases hlo : loadOk hr md gr o.op s1 with
                | false => rw [hlo] at hq; exact hq.elim
                | true =>
                  rw [hlo] at hq
                  simp only [cond_true] at hq
                  obtain ⟨v, d, hrn, hv, hk'⟩ := execL_ok htb h1.ev h1.den (o := o) hq
                  refine rest v d (fun w' hx => hrn w' (fun hn b hb => ?_) (fun n ao p b hn k1 h2 h3 => ?_)) hv hk'
                  · simp only [loadOk, hn, Bool.not_eq_true'] at hlo
                    have hib := R.ii hlo b hb
                    have hlt := hdr.inn b hib
                    have hno : ¬ OwnedIn md g0 hr b := by
                      rintro ⟨o2, ao2, p2, _, q1, q2, q3⟩
                      exact hdr.own o2 ao2 p2 b q1 q2 q3 hib
                    rw [hx.block b hlt hno, R.ext.block b hlt hno]
                  · simp only [loadOk, hn, Bool.and_eq_true, Bool.not_eq_true'] at hlo
                    have hn1 : n < hr.length := Nat.le_of_ble_eq_true hlo.1
                    have hn2 : n ∉ md := by
                      intro hm
                      have : md.elem n = true := by simpa using hm
                      rw [this] at hlo
                      cases hlo.2
                    rw [e1, R.fr n hn1 hn2] at k1
                    have hg0 : g0[n]? = some (g0[n]'(by rw [hdr.len]; exact hn1)) := List.getElem?_eq_getElem _
                    have e := R.gx n _ hg0
                    rw [h2] at e
                    injection e with e
                    rw [← e] at hg0
                    have hlt := hdr.lt ⟨n, ao, p, k1, hg0, h3⟩
                    have hno : ¬ OwnedIn md g0 hr b := by
                      rintro ⟨o2, ao2, p2, hm, q1, q2, q3⟩
                      have := hdr.sep n o2 ao ao2 p p2 b k1 q1 hg0 q2 h3 q3
                      subst this
                      exact hn2 hm
                    rw [hx.block b hlt hno, R.ext.block b hlt hno]
              | false =>
                rw [hL] at hq
                simp only [cond_false] at hq
                obtain ⟨v, d, hrn, hv, hk'⟩ := execP_ok htb h1.ev h1.den (o := o) hq
                exact rest v d (fun w' _ => hrn w') hv hk'
        -- where it is not wanted
        have skip : ∀ s1 : S, Inv C I g s1 a w → s1.h = s.h → b = false → (put E o.dst (.tup []) s1 fun s' => execA E ops.toList hr md r gr s' k).ok P Q → wpAnyH P .any ops Qc (fun w' => Ext (OwnedIn md g0 hr) wr w') (fuel + 1) L a w := by
          intro s1 h1 e1 hb hq
          subst hb
          obtain ⟨s2, hs2, h2, hk2⟩ := h1.put hE .undef hq
          have hrest := execA_wp htb hE hsel hP hK hdr r fuel (L.setIfInBounds i true) gr s2 _ w I g h2 (by rw [hs2, e1]; exact R) hp2 hf' hk2
          cases al with
          | true =>
            simp only [if_true, beq_iff_eq] at hp1
            refine wpAnyH_all hp1 (by simp) (fun j hj => ?_)
            simp only [List.mem_singleton] at hj
            subst hj
            unfold Go.wpOp
            simp only [ho, hw]
            exact ⟨R.ext, hrest⟩
          | false =>
            simp only [Bool.false_eq_true, if_false, Bool.and_eq_true] at hp1
            exact wpAnyH_take ho hsel hp1.1 hp1.2 (fun c a w => hP c a w _ _) (.inr ⟨hw, rfl⟩) R.ext hrest
        split at hk
        · rename_i e
          have hb : b = true := by
            have : guardD ops.toList o s = some true := by unfold guardD; rw [e]
            rw [hg] at this
            injection this
          exact main s h rfl hb hk
        · rename_i j want e
          have hlt := lit_ok h e hg
          cases b with
          | true => exact main _ hlt.1 hlt.2 rfl (hk.1 rfl)
          | false => exact skip _ hlt.1 hlt.2 rfl (hk.2 rfl)
end
end Go.Proofs.YtbbcepmhkocgbaaGreatDoor

/- Walks computed: other names for the same objects; a state seen by fewer objects. No program here. -/
namespace Go.Proofs.YtbbcepmhkocgbaaGreatDoor
open Go.RowKit
set_option linter.unusedVariables false

theorem ln_get : ∀ (l : List Nat) (n : Nat), ln l n = l[n]?
  | [], _ => by simp [ln]
  | d :: _, 0 => by simp [ln]
  | _ :: l, n + 1 => by simp [ln, ln_get l n]
theorem rl_map (σ : List Nat) : ∀ ds : List D, D.ren.rl σ ds = ds.map (D.ren σ)
  | [] => rfl
  | d :: ds => by rw [D.ren.rl, rl_map σ ds]; rfl
theorem rl_get (σ : List Nat) (ds : List D) (i : Nat) : (D.ren.rl σ ds)[i]? = (ds[i]?).map (D.ren σ) := by rw [rl_map]; simp
theorem rl_len (σ : List Nat) (ds : List D) : (D.ren.rl σ ds).length = ds.length := by rw [rl_map]; simp
section
variable {I : Nat → Prop} {w : World} {σ : List Nat}
theorem Dr.ren_id {v : Value} {d : D} (h : Dr I w v d) : d.ren σ = d := by
  have key : ∀ (vs : List Value) (ds : List D), vs.length = ds.length → (∀ (i : Nat) v d, vs[i]? = some v → ds[i]? = some d → d.ren σ = d) → D.ren.rl σ ds = ds := by
    intro vs ds hl ih
    apply List.ext_getElem?
    intro i
    rw [rl_get]
    cases hd : ds[i]? with
    | none => rfl
    | some d =>
      have hlt : i < vs.length := by rw [hl]; exact (List.getElem?_eq_some_iff.1 hd).1
      simp [ih i _ d (List.getElem?_eq_getElem hlt) hd]
  induction h with
  | agg vs ds hl h1 h ih => simp only [D.ren]; rw [key vs ds hl ih]
  | tup vs ds hl h ih => simp only [D.ren]; rw [key vs ds hl ih]
  | fn f vs ds hl h ih => simp only [D.ren]; rw [key vs ds hl ih]
  | _ => rfl
theorem Dr.ren_inv {v : Value} {d' : D} (h : Dr I w v d') : ∀ d : D, d.ren σ = d' → d = d' := by
  have key : ∀ (vs : List Value) (ds cs : List D), vs.length = ds.length → (∀ (i : Nat) v d, vs[i]? = some v → ds[i]? = some d → ∀ c : D, c.ren σ = d → c = d) → D.ren.rl σ cs = ds → cs = ds := by
    intro vs ds cs hl ih e
    apply List.ext_getElem?
    intro i
    have hi := congrArg (·[i]?) e
    simp only [rl_get] at hi
    cases hc : cs[i]? with
    | none => rw [hc] at hi; rw [← hi]; rfl
    | some c =>
      rw [hc] at hi
      simp only [Option.map_some] at hi
      have hlt : i < vs.length := by rw [hl]; exact (List.getElem?_eq_some_iff.1 hi.symm).1
      have := ih i _ _ (List.getElem?_eq_getElem hlt) hi.symm c rfl
      rw [← hi, ← this]
  induction h with
  | agg vs ds hl h1 h ih =>
    intro d e
    cases d <;> simp only [D.ren] at e <;> first
      | (cases e; done)
      | (injection e with e; rw [key vs ds _ hl ih e])
      | (split at e <;> cases e)
  | tup vs ds hl h ih =>
    intro d e
    cases d <;> simp only [D.ren] at e <;> first
      | (cases e; done)
      | (injection e with e; rw [key vs ds _ hl ih e])
      | (split at e <;> cases e)
  | fn f vs ds hl h ih =>
    intro d e
    cases d <;> simp only [D.ren] at e <;> first
      | (cases e; done)
      | (injection e with e1 e2; rw [e1, key vs ds _ hl ih e2])
      | (split at e <;> cases e)
  | _ =>
    intro d e
    cases d <;> simp only [D.ren] at e <;> first
      | rfl
      | exact e
      | (cases e; done)
      | (split at e <;> cases e)
theorem Vr.down {g gs : Ghost} (hσ : ∀ (i o : Nat), σ[i]? = some o → gs[i]? = g[o]?) {v : Value} {d' : D} (h : Vr I g w v d') : ∀ d : D, d.ren σ = d' → Vr I gs w v d := by
  induction h with
  | rd h => intro d e; rw [h.ren_inv d e]; exact .rd h
  | any v =>
    intro d e
    cases d <;> simp only [D.ren] at e <;> first
      | exact .any v
      | (cases e; done)
      | (split at e <;> cases e)
  | ptr o off b bo h =>
    intro d e
    cases d <;> simp only [D.ren] at e <;> first
      | (cases e; done)
      | (split at e <;> first
        | (cases e; done)
        | (rename_i p hp
           injection e with e1 e2
           subst e1 e2
           rw [ln_get] at hp
           exact .ptr _ _ b bo (by rw [hσ _ _ hp]; exact h)))
  | row o bo a l c h =>
    intro d e
    cases d <;> simp only [D.ren] at e <;> first
      | (cases e; done)
      | (split at e <;> first
        | (cases e; done)
        | (rename_i p hp
           injection e with e1
           subst e1
           rw [ln_get] at hp
           exact .row _ bo a l c (by rw [hσ _ _ hp]; exact h)))
  | agg vs ds hl h1 h ih =>
    intro d e
    cases d <;> simp only [D.ren] at e <;> first
      | (cases e; done)
      | (split at e <;> cases e; done)
      | (injection e with e
         subst e
         refine .agg vs _ (by rw [hl, rl_len]) h1 (fun i v c hv hc => ih i v _ hv (by rw [rl_get, hc]; rfl) c rfl))
  | tup vs ds hl h ih =>
    intro d e
    cases d <;> simp only [D.ren] at e <;> first
      | (cases e; done)
      | (split at e <;> cases e; done)
      | (injection e with e
         subst e
         refine .tup vs _ (by rw [hl, rl_len]) (fun i v c hv hc => ih i v _ hv (by rw [rl_get, hc]; rfl) c rfl))
  | fn f vs ds hl h ih =>
    intro d e
    cases d <;> simp only [D.ren] at e <;> first
      | (cases e; done)
      | (split at e <;> cases e; done)
      | (injection e with e1 e
         subst e1 e
         refine .fn _ vs _ (by rw [hl, rl_len]) (fun i v c hv hc => ih i v _ hv (by rw [rl_get, hc]; rfl) c rfl))
theorem Vr.up {g gs : Ghost} (hσ : ∀ (i : Nat) p, gs[i]? = some p → ∃ o, σ[i]? = some o ∧ g[o]? = some p) {v : Value} {d : D} (h : Vr I gs w v d) : Vr I g w v (d.ren σ) := by
  induction h with
  | rd h => rw [h.ren_id]; exact .rd h
  | any v => exact .any v
  | ptr o off b bo h =>
    obtain ⟨p, h1, h2⟩ := hσ _ _ h
    simp only [D.ren, ln_get, h1]
    exact .ptr _ _ b bo h2
  | row o bo a l c h =>
    obtain ⟨p, h1, h2⟩ := hσ _ _ h
    simp only [D.ren, ln_get, h1]
    exact .row _ bo a l c h2
  | agg vs ds hl h1 h ih =>
    refine .agg vs _ (by rw [rl_len]; exact hl) h1 (fun i v d hv hd => ?_)
    rw [rl_get] at hd
    cases hq : ds[i]? with
    | none => rw [hq] at hd; cases hd
    | some c => rw [hq] at hd; injection hd with hd; subst hd; exact ih i v c hv hq
  | tup vs ds hl h ih =>
    refine .tup vs _ (by rw [rl_len]; exact hl) (fun i v d hv hd => ?_)
    rw [rl_get] at hd
    cases hq : ds[i]? with
    | none => rw [hq] at hd; cases hd
    | some c => rw [hq] at hd; injection hd with hd; subst hd; exact ih i v c hv hq
  | fn f vs ds hl h ih =>
    refine .fn f vs _ (by rw [rl_len]; exact hl) (fun i v d hv hd => ?_)
    rw [rl_get] at hd
    cases hq : ds[i]? with
    | none => rw [hq] at hd; cases hd
    | some c => rw [hq] at hd; injection hd with hd; subst hd; exact ih i v c hv hq
end
theorem AO.owns_ren (σ : List Nat) (p : Option Nat × Value) (a : AO) (b : Nat) : (a.ren σ).owns p b ↔ a.owns p b := by cases a <;> exact Iff.rfl
section
variable {I : Nat → Prop} {w : World} {σ : List Nat}
theorem Vrs.down {g gs : Ghost} (hσ : ∀ (i o : Nat), σ[i]? = some o → gs[i]? = g[o]?) {vs : List Value} {ds : List D} (h : Vrs I g w vs (D.ren.rl σ ds)) : Vrs I gs w vs ds :=
  ⟨by rw [h.1, rl_len], fun i v d h1 h2 => (h.2 i v (d.ren σ) h1 (by rw [rl_get, h2]; rfl)).down hσ d rfl⟩
theorem Vrs.up {g gs : Ghost} (hσ : ∀ (i : Nat) p, gs[i]? = some p → ∃ o, σ[i]? = some o ∧ g[o]? = some p) {vs : List Value} {ds : List D} (h : Vrs I gs w vs ds) : Vrs I g w vs (D.ren.rl σ ds) := by
  refine ⟨by rw [rl_len]; exact h.1, fun i v d h1 h2 => ?_⟩
  rw [rl_get] at h2
  cases hq : ds[i]? with
  | none => rw [hq] at h2; cases h2
  | some c => rw [hq] at h2; injection h2 with h2; subst h2; exact (h.2 i v c h1 hq).up hσ
theorem Ro.down {g gs : Ghost} (hσ : ∀ (i o : Nat), σ[i]? = some o → gs[i]? = g[o]?) {p : Option Nat × Value} {a : AO} (h : Ro I g w p (a.ren σ)) : Ro I gs w p a := by
  cases a with
  | cells t cs =>
    obtain ⟨b, vs, rfl, hb, hv, h1⟩ := h
    exact ⟨b, vs, rfl, hb, hv.down hσ, h1⟩
  | row t n xs => exact h
  | gone => trivial
theorem Ro.up {g gs : Ghost} (hσ : ∀ (i : Nat) p, gs[i]? = some p → ∃ o, σ[i]? = some o ∧ g[o]? = some p) {p : Option Nat × Value} {a : AO} (h : Ro I gs w p a) : Ro I g w p (a.ren σ) := by
  cases a with
  | cells t cs =>
    obtain ⟨b, vs, rfl, hb, hv, h1⟩ := h
    exact ⟨b, vs, rfl, hb, hv.up hσ, h1⟩
  | row t n xs => exact h
  | gone => trivial
theorem View.lt {h h' : List AO} (V : View σ h h') {i o : Nat} (hi : σ[i]? = some o) : o < h.length := by
  have hlt : i < h'.length := by rw [← V.len]; exact (List.getElem?_eq_some_iff.1 hi).1
  exact (List.getElem?_eq_some_iff.1 (V.obj i o _ hi (List.getElem?_eq_getElem hlt))).1
/-- the ghosts of a view -/
def gv (σ : List Nat) (g : Ghost) : Ghost := σ.map fun o => (g[o]?).getD (none, .nilFunc)
theorem gv_get {g : Ghost} {h h' : List AO} (V : View σ h h') (hl : g.length = h.length) : ∀ (i o : Nat), σ[i]? = some o → (gv σ g)[i]? = g[o]? := by
  intro i o hi
  have hlt := V.lt hi
  rw [gv, List.getElem?_map, hi, Option.map_some, List.getElem?_eq_getElem (by omega : o < g.length)]
  rfl
theorem gv_inv {g : Ghost} {h h' : List AO} (V : View σ h h') (hl : g.length = h.length) {i : Nat} {p : Option Nat × Value} (hp : (gv σ g)[i]? = some p) : ∃ o, σ[i]? = some o ∧ g[o]? = some p := by
  cases hi : σ[i]? with
  | none => rw [gv, List.getElem?_map, hi] at hp; cases hp
  | some o => exact ⟨o, rfl, by rw [← gv_get V hl i o hi]; exact hp⟩
theorem Den.view {g : Ghost} {h h' : List AO} (hd : Den I g w h) (V : View σ h h') : Den I (gv σ g) w h' := by
  have hσ := gv_get V hd.len
  refine ⟨by rw [← V.len]; simp [gv], hd.inn, fun i a p h1 h2 => ?_, fun i a p b h1 h2 h3 => ?_, fun i j a a' p p' b h1 h1' h2 h2' h3 h3' => ?_⟩
  · obtain ⟨o, e1, e2⟩ := gv_inv V hd.len h2
    exact (hd.obj o _ p (V.obj i o a e1 h1) e2).down hσ
  · obtain ⟨o, e1, e2⟩ := gv_inv V hd.len h2
    exact hd.own o _ p b (V.obj i o a e1 h1) e2 ((AO.owns_ren σ p a b).2 h3)
  · obtain ⟨o, e1, e2⟩ := gv_inv V hd.len h2
    obtain ⟨o', e1', e2'⟩ := gv_inv V hd.len h2'
    have := hd.sep o o' _ _ p p' b (V.obj i o a e1 h1) (V.obj j o' a' e1' h1') e2 e2' ((AO.owns_ren σ p a b).2 h3) ((AO.owns_ren σ p' a' b).2 h3')
    subst this
    exact V.inj i j o e1 e1'
theorem Owned.view {g : Ghost} {h h' : List AO} (V : View σ h h') (hl : g.length = h.length) {b : Nat} (hb : Owned (gv σ g) h' b) : OwnedIn σ g h b := by
  obtain ⟨i, a, p, h1, h2, h3⟩ := hb
  obtain ⟨o, e1, e2⟩ := gv_inv V hl h2
  exact ⟨o, _, p, List.mem_of_getElem? e1, V.obj i o a e1 h1, e2, (AO.owns_ren σ p a b).2 h3⟩
theorem OwnedIn.unview {g : Ghost} {h h' : List AO} (V : View σ h h') (hl : g.length = h.length) {b : Nat} (hb : OwnedIn σ g h b) : Owned (gv σ g) h' b := by
  obtain ⟨o, a, p, hm, h1, h2, h3⟩ := hb
  obtain ⟨i, hi⟩ := List.getElem?_of_mem hm
  have hlt : i < h'.length := by rw [← V.len]; exact (List.getElem?_eq_some_iff.1 hi).1
  have := V.obj i o _ hi (List.getElem?_eq_getElem hlt)
  rw [h1] at this
  injection this with this
  subst this
  exact ⟨i, _, p, List.getElem?_eq_getElem hlt, by rw [gv_get V hl i o hi]; exact h2, (AO.owns_ren σ p _ b).1 h3⟩
end
end Go.Proofs.YtbbcepmhkocgbaaGreatDoor

/- Walks computed: the code of a function; what a function does with few objects it does beside any others. No program here. -/
namespace Go.Proofs.YtbbcepmhkocgbaaGreatDoor
open Go.RowKit
set_option linter.unusedVariables false

/-- how a region that draws is walked: the order, what comes alone; the objects that it changes -/
structure Plan where
  ord : List (Nat × Bool)
  md : List Nat
def lp : List (Nat × Plan) → Nat → Option Plan
  | [], _ => none
  | (i, p) :: l, j => bif Nat.beq j i then some p else lp l j
def defOf : List Oper → Nat → Option Op
  | [], _ => none
  | o :: l, t => match o.dst with
    | some d => bif Nat.beq d t then some o.op else defOf l t
    | none => defOf l t
/-- the datum on which an operand rests, at a region's start -/
def rootOf (ops : List Oper) (s : S) : Nat → Operand → D
  | 0, _ => .any
  | n + 1, x => match x with
    | .tmp t => match defOf ops t with
      | some (.fieldAddr _ y _) => rootOf ops s n y
      | some (.nilCheck y) => rootOf ops s n y
      | some (.move y) => rootOf ops s n y
      | some _ => .any
      | none => ev s x
    | _ => ev s x
def rootsOf (ops : List Oper) (s : S) : List Oper → List D
  | [] => []
  | o :: l => match o.op with
    | .store _ a _ => rootOf ops s 8 a :: rootsOf ops s l
    | .call ⟨.builtin .append, args, _⟩ => match args.toList with
      | x :: _ => rootOf ops s 8 x :: rootsOf ops s l
      | [] => rootsOf ops s l
    | .call ⟨.value f, args, _⟩ => ev s f :: args.toList.map (rootOf ops s 8) ++ rootsOf ops s l
    | _ => rootsOf ops s l
def alone (op : Op) : Bool :=
  match op with
  | .alloc _ | .box _ _ | .buildSlice _ _ _ | .store _ _ _ | .makeSlice _ _ _ => true
  | .call ⟨.builtin .append, _, _⟩ => true
  | .call ⟨.value _, _, _⟩ => true
  | _ => false
def natural : List Oper → Nat → List (Nat × Bool)
  | [], _ => []
  | o :: l, i => (i, alone o.op) :: natural l (i + 1)
def planOf (PL : List (Nat × Plan)) (id : Nat) (ops : List Oper) (s : S) : Plan :=
  match lp PL id with
  | some p => p
  | none => ⟨natural ops 0, foot s.h (rootsOf ops s ops)⟩
/-- the code computed; m: so many objects came in -/
def execC (E : En) (m : Nat) (PL : List (Nat × Plan)) : Code → S → (Exit → S → T) → T
  | .skip, s, K => K .normal s
  | .region id ops false, s, K => execR E ops.toList ops.toList s (K .normal)
  | .region id ops true, s, K =>
    .ask ((planOk ops (planOf PL id ops.toList s).ord (Array.replicate ops.size false) && (Region.noSelect ops && Nat.ble (planOf PL id ops.toList s).ord.length ops.size)) = true)
      (execA E ops.toList s.h (planOf PL id ops.toList s).md (planOf PL id ops.toList s).ord false s (K .normal))
  | .seq a b, s, K => execC E m PL a s fun e s' => match e with
    | .normal => execC E m PL b s' K
    | e => K e s'
  | .cond c a b, s, K => match ev s c with
    | .bool v => .br v (execC E m PL a s K) (execC E m PL b s K)
    | _ => .fail 70
  | .block id c, s, K => execC E m PL c s fun e s' => match e with
    | .exit id' => bif Nat.beq id' id then K .normal s' else K (.exit id') s'
    | e => K e s'
  | .loop c, s, K => .loop m s (fun s' => execC E m PL c s' .leaf) K
  | .exit id, s, K => K (.exit id) s
  | .ret, s, K => K .ret s
  | _, _, _ => .fail 71
theorem least {p : Nat → Prop} (h : ∃ n, p n) : ∃ n, p n ∧ ∀ m, p m → n ≤ m := by
  obtain ⟨n, hn⟩ := h
  induction n using Nat.strongRecOn with
  | _ n ih =>
    by_cases hq : ∃ m, m < n ∧ p m
    · obtain ⟨m, h1, h2⟩ := hq
      exact ih m h1 h2
    · exact ⟨n, hn, fun m hm => by
        rcases Nat.lt_or_ge m n with h | h
        · exact absurd ⟨m, h, hm⟩ hq
        · exact h⟩
section
variable {P : Program} {C : Cx}
theorem IInv.view {m : Nat} (hm : C.h0.length = m) {s s' : S} {a : Act} {w : World} (h : IInv C s a w) (V : Sv m s s') : IInv C s' a w := by
  obtain ⟨I, g, h⟩ := h
  obtain ⟨σ, V, hp, ht⟩ := V
  have hσ := gv_get V h.den.len
  refine ⟨I, gv σ g, h.den.view V, fun j => ?_, h.sz, h.dfr, h.ext, h.i1, h.i2, fun b hb => h.ow b (Owned.view V h.den.len hb).owned, fun o p t cs h1 h2 => ?_⟩
  · rcases ht j with e | e
    · rw [e]; exact .any _
    · exact (h.tmp j).down hσ _ e.symm
  · have hlt : o < m := by rw [← hm]; exact (List.getElem?_eq_some_iff.1 h2).1
    rw [hσ o o (hp o hlt)]
    exact h.gk o p t cs h1 h2
theorem execC_wp {E : En} (htb : E.tb.ok P) (hE : E.n = C.n) {m : Nat} (hm : C.h0.length = m) (hmix : P.follows .mixedOrders = true) {PL : List (Nat × Plan)} : ∀ (c : Code) {s : S} {a : Act} {w : World} {K : Exit → S → T} {Q : Exit → S → Prop} {Qc : Exit → Act → World → Prop},
    (∀ c a w d v, Qc (.panic c) (a.put d v) w → Qc (.panic c) a w) → (∀ e s' a' w', IInv C s' a' w' → (K e s').ok P Q → Qc e a' w') → IInv C s a w → (execC E m PL c s K).ok P Q → c.wp P Qc a w := by
  intro c
  induction c with
  | skip => intro s a w K Q Qc hP hK h hk; exact wp_skip (hK _ _ _ _ h hk)
  | region id ops draw =>
    intro s a w K Q Qc hP hK h hk
    cases draw with
    | false =>
      exact wp_region_list (execR_wp htb hE (fun s' a' w' h' hk' => hK _ _ _ _ h' hk') ops.toList s a w h hk)
    | true =>
      simp only [execC, T.ok] at hk
      obtain ⟨hpl, hk⟩ := hk
      simp only [Bool.and_eq_true] at hpl
      obtain ⟨hp, hsel, hlen⟩ := hpl
      replace hlen := Nat.le_of_ble_eq_true hlen
      obtain ⟨I, g, h⟩ := h
      have hB : B w w.drew := (Below.refl _ _).drew
      have h' : Inv C I g s a w.drew := h.step (M := []) rfl ⟨h.den.later hB, Ext.of_B hB, fun _ h => h, fun _ h => .inl h, fun _ _ h => h, fun _ _ _ => rfl, fun o ao p b _ h1 _ h3 => ⟨ao, h1, h3⟩, fun o ao p b hq h1 _ _ => by have := (List.getElem?_eq_some_iff.1 h1).1; omega⟩
      exact wp_region_held hmix (execA_wp htb hE hsel hP (fun s' a' w' h' hk' => hK _ _ _ _ h' hk') h'.den _ _ _ false s a _ I g h' Reg.start hp hlen hk)
  | seq x y ihx ihy =>
    intro s a w K Q Qc hP hK h hk
    refine wp_seq (ihx (K := fun e s' => match e with
      | .normal => execC E m PL y s' K
      | e => K e s') (Q := Q) (fun c a w d v hq => hP c a w d v hq) (fun e s' a' w' h' hk' => ?_) h hk)
    cases e with
    | normal => exact ihy hP hK h' hk'
    | _ => exact hK _ _ _ _ h' hk'
  | cond c x y ihx ihy =>
    intro s a w K Q Qc hP hK h hk
    simp only [execC] at hk
    obtain ⟨I, g, h⟩ := h
    split at hk
    · rename_i v hc
      have hv := h.ev c
      rw [hc] at hv
      exact wp_cond_split hv.bool_inv (fun e => ihx hP hK ⟨I, g, h⟩ (hk.1 e)) (fun e => ihy hP hK ⟨I, g, h⟩ (hk.2 e))
    · exact hk.elim
  | block id c ih =>
    intro s a w K Q Qc hP hK h hk
    refine wp_block (ih (K := fun e s' => match e with
      | .exit id' => bif Nat.beq id' id then K .normal s' else K (.exit id') s'
      | e => K e s') (Q := Q) (fun c a w d v hq => hP c a w d v hq) (fun e s' a' w' h' hk' => ?_) h hk)
    cases e with
    | exit id' =>
      simp only [Exit.inBlock]
      cases hb : Nat.beq id' id with
      | true =>
        simp only [hb, cond_true] at hk'
        rw [if_pos (Nat.eq_of_beq_eq_true hb)]
        exact hK _ _ _ _ h' hk'
      | false =>
        simp only [hb, cond_false] at hk'
        rw [if_neg (fun e => by subst e; rw [Nat.beq_refl] at hb; cases hb)]
        exact hK _ _ _ _ h' hk'
    | _ => exact hK _ _ _ _ h' hk'
  | loop c ih =>
    intro s a w K Q Qc hP hK h hk
    simp only [execC, T.ok] at hk
    obtain ⟨Iv, μ, ⟨s1, V1, hI1⟩, hk⟩ := hk
    have hex : ∀ a w, (∃ s, IInv C s a w ∧ Iv s) → ∃ n, ∃ s, IInv C s a w ∧ Iv s ∧ μ s = n := fun a w ⟨s, h1, h2⟩ => ⟨_, s, h1, h2, rfl⟩
    classical
    let μ' : Act → World → Nat := fun a w => if hh : ∃ s, IInv C s a w ∧ Iv s then Classical.choose (least (hex a w hh)) else 0
    have hsp : ∀ a w (hh : ∃ s, IInv C s a w ∧ Iv s), μ' a w = Classical.choose (least (hex a w hh)) := fun a w hh => by simp only [μ', dif_pos hh]
    have hle : ∀ a w s, IInv C s a w → Iv s → μ' a w ≤ μ s := fun a w s h1 h2 => by
      have hh : ∃ s, IInv C s a w ∧ Iv s := ⟨s, h1, h2⟩
      rw [hsp a w hh]
      exact (Classical.choose_spec (least (hex a w hh))).2 _ ⟨s, h1, h2, rfl⟩
    have hat : ∀ a w, (∃ s, IInv C s a w ∧ Iv s) → ∃ s, IInv C s a w ∧ Iv s ∧ μ s = μ' a w := fun a w hh => by
      rw [hsp a w hh]
      exact (Classical.choose_spec (least (hex a w hh))).1
    refine wp_loop (fun a w => ∃ s, IInv C s a w ∧ Iv s) μ' ⟨s1, h.view hm V1, hI1⟩ (fun a w hh => ?_)
    obtain ⟨s0, h0, hI0, hμ⟩ := hat a w hh
    refine ih (K := .leaf) (fun c a w d v hq => hP c a w d v hq) (fun e s' a' w' h' hk' => ?_) h0 (hk s0 hI0)
    cases e with
    | normal =>
      obtain ⟨s2, V2, hI2, hlt⟩ := hk'
      have h2 := h'.view hm V2
      exact ⟨⟨s2, h2, hI2⟩, by have := hle a' w' s2 h2 hI2; omega⟩
    | exit id => exact hK _ _ _ _ h' hk'
    | goto l => exact hK _ _ _ _ h' hk'
    | ret => exact hK _ _ _ _ h' hk'
    | panic ch => exact hK _ _ _ _ h' hk'
    | outgrown => exact hK _ _ _ _ h' hk'
  | exit id => intro s a w K Q Qc hP hK h hk; exact wp_exit (hK _ _ _ _ h hk)
  | ret => intro s a w K Q Qc hP hK h hk; exact wp_ret (hK _ _ _ _ h hk)
  | _ => intro s a w K Q Qc hP hK h hk; exact hk.elim
end
end Go.Proofs.YtbbcepmhkocgbaaGreatDoor

/- Walks computed: what a function does with data, from its code; data that were objects; data for nil. No program here. -/
namespace Go.Proofs.YtbbcepmhkocgbaaGreatDoor
open Go.RowKit
set_option linter.unusedVariables false

/-- nil as an empty list -/
inductive Co : D → D → Prop
  | refl (d : D) : Co d d
  | nil (n : Nat) : Co .nils (.list n [])
  | any (d : D) : Co d .any
  | agg (ds es : List D) (hl : ds.length = es.length) (h : ∀ (i : Nat) d e, ds[i]? = some d → es[i]? = some e → Co d e) : Co (.agg ds) (.agg es)
  | tup (ds es : List D) (hl : ds.length = es.length) (h : ∀ (i : Nat) d e, ds[i]? = some d → es[i]? = some e → Co d e) : Co (.tup ds) (.tup es)
theorem Co.ok {I : Nat → Prop} {g : Ghost} {w : World} {d e : D} (h : Co d e) : ∀ {v : Value}, Vr I g w v d → Vr I g w v e := by
  induction h with
  | refl d => exact fun h => h
  | nil n =>
    intro v h
    cases h.nils_inv
    exact .rd (.list none 0 n 0 [] (fun _ _ => undef) rfl (Nat.le_refl _) (Nat.zero_le _) (fun _ => ⟨rfl, rfl⟩) (by simp) (fun h => by simp at h) (by simp) (by simp))
  | any d => exact fun _ => .any _
  | agg ds es hl h ih =>
    intro v hv
    obtain ⟨vs, rfl, k1, k2⟩ := hv.agg_inv
    refine .agg vs es (k1.1.trans hl) k2 (fun i v e h1 h2 => ?_)
    have hlt : i < ds.length := by rw [hl]; exact (List.getElem?_eq_some_iff.1 h2).1
    exact ih i _ e (List.getElem?_eq_getElem hlt) h2 (k1.2 i v _ h1 (List.getElem?_eq_getElem hlt))
  | tup ds es hl h ih =>
    intro v hv
    obtain ⟨vs, rfl, k1⟩ := hv.tup_inv
    refine .tup vs es (k1.1.trans hl) (fun i v e h1 h2 => ?_)
    have hlt : i < ds.length := by rw [hl]; exact (List.getElem?_eq_some_iff.1 h2).1
    exact ih i _ e (List.getElem?_eq_getElem hlt) h2 (k1.2 i v _ h1 (List.getElem?_eq_getElem hlt))
def Cos (ds es : List D) : Prop := ds.length = es.length ∧ ∀ (i : Nat) d e, ds[i]? = some d → es[i]? = some e → Co d e
theorem Cos.nil : Cos [] [] := ⟨rfl, fun i d e h => by simp at h⟩
theorem Cos.cons {d e : D} {ds es : List D} (h : Co d e) (k : Cos ds es) : Cos (d :: ds) (e :: es) := by
  refine ⟨by simp [k.1], fun i a b h1 h2 => ?_⟩
  cases i with
  | zero => simp at h1 h2; subst h1 h2; exact h
  | succ i => simp at h1 h2; exact k.2 i a b h1 h2
theorem Cos.refl (ds : List D) : Cos ds ds := ⟨rfl, fun i d e h1 h2 => by rw [h1] at h2; injection h2 with h2; subst h2; exact .refl _⟩
theorem Cos.mkAgg {ds es : List D} (h : Cos ds es) : Co (.agg ds) (.agg es) := .agg ds es h.1 h.2
theorem Cos.mkTup {ds es : List D} (h : Cos ds es) : Co (.tup ds) (.tup es) := .tup ds es h.1 h.2
theorem Cos.ok {I : Nat → Prop} {g : Ghost} {w : World} {ds es : List D} (h : Cos ds es) {vs : List Value} (k : Vrs I g w vs ds) : Vrs I g w vs es := by
  refine ⟨k.1.trans h.1, fun i v e h1 h2 => ?_⟩
  have hlt : i < ds.length := by rw [h.1]; exact (List.getElem?_eq_some_iff.1 h2).1
  exact (h.2 i _ e (List.getElem?_eq_getElem hlt) h2).ok (k.2 i v _ h1 (List.getElem?_eq_getElem hlt))

/-! rows held for data -/
/-- the rows fz are held for data -/
def D.frz (h : List AO) (fz : List Nat) : D → D
  | .row o => bif fz.elem o then (match lh h o with
    | .row _ n xs => .list n xs
    | _ => .row o) else .row o
  | .agg cs => .agg (fl cs)
  | .tup cs => .tup (fl cs)
  | d => d
where fl : List D → List D
  | [] => []
  | d :: ds => d.frz h fz :: fl ds
theorem fl_map (h : List AO) (fz : List Nat) : ∀ ds : List D, D.frz.fl h fz ds = ds.map (D.frz h fz)
  | [] => rfl
  | d :: ds => by rw [D.frz.fl, fl_map h fz ds]; rfl
theorem Vr.frz {I I' : Nat → Prop} {g : Ghost} {w : World} {h : List AO} {fz : List Nat} (hd : Den I g w h) (hI : ∀ b, I b → I' b) (hf : ∀ b, OwnedIn fz g h b → I' b) {v : Value} {d : D} (hv : Vr I g w v d) : Vr I' g w v (d.frz h fz) := by
  have id_of : ∀ {v : Value} {d : D}, Dr I w v d → d.frz h fz = d := by
    intro v d hdr
    have key : ∀ (vs : List Value) (ds : List D), vs.length = ds.length → (∀ (i : Nat) v d, vs[i]? = some v → ds[i]? = some d → d.frz h fz = d) → D.frz.fl h fz ds = ds := by
      intro vs ds hl ih
      apply List.ext_getElem?
      intro i
      rw [fl_map, List.getElem?_map]
      cases hd : ds[i]? with
      | none => rfl
      | some d =>
        have hlt : i < vs.length := by rw [hl]; exact (List.getElem?_eq_some_iff.1 hd).1
        simp [ih i _ d (List.getElem?_eq_getElem hlt) hd]
    induction hdr with
    | agg vs ds hl h1 h ih => simp only [D.frz]; rw [key vs ds hl ih]
    | tup vs ds hl h ih => simp only [D.frz]; rw [key vs ds hl ih]
    | _ => rfl
  induction hv with
  | rd hq => rw [id_of hq]; exact .rd (hq.mono hI)
  | any v => exact .any v
  | ptr o off b bo hq => exact .ptr o off b bo hq
  | row o bo a l c hq =>
    simp only [D.frz]
    cases hfo : fz.elem o with
    | false => exact .row o bo a l c hq
    | true =>
      simp only [cond_true]
      cases hl : lh h o with
      | row t n xs =>
        have hlc := lh_row hl
        obtain ⟨a', c', vs, hp, hr, hb, hdv, hlen, h1⟩ := hd.obj o _ _ hlc hq
        have hp' : a = a' ∧ l = xs.length := by injection hp with e1 e2 e3; exact ⟨e1, e2⟩
        obtain ⟨rfl, rfl⟩ := hp'
        refine .rd (Dr.of_row hr (hdv.mono hI) hlen h1 (fun b hb' => hf b ⟨o, _, _, by simpa using hfo, hlc, hq, ?_⟩))
        show bo = some b
        exact hb.trans hb'
      | cells t cs => exact .row o bo a l c hq
      | gone => exact .row o bo a l c hq
  | agg vs ds hl h1 h ih =>
    refine .agg vs _ (by rw [fl_map]; simpa using hl) h1 (fun i v e hv he => ?_)
    rw [fl_map, List.getElem?_map] at he
    cases hq : ds[i]? with
    | none => rw [hq] at he; cases he
    | some c => rw [hq] at he; injection he with he; subst he; exact ih i v c hv hq
  | tup vs ds hl h ih =>
    refine .tup vs _ (by rw [fl_map]; simpa using hl) (fun i v e hv he => ?_)
    rw [fl_map, List.getElem?_map] at he
    cases hq : ds[i]? with
    | none => rw [hq] at he; cases he
    | some c => rw [hq] at he; injection he with he; subst he; exact ih i v c hv hq
  | fn f vs ds hl h ih => exact .fn f vs ds hl (fun i v d h1 h2 => (h i v d h1 h2).mono hI (fun _ _ h => h))
def AO.frz (h : List AO) (fz : List Nat) : AO → AO
  | .cells t cs => .cells t (D.frz.fl h fz cs)
  | a => a
def frH (h : List AO) (fz : List Nat) : Nat → List AO → List AO
  | _, [] => []
  | o, a :: l => (bif fz.elem o then .gone else a.frz h fz) :: frH h fz (o + 1) l
theorem frH_get (h : List AO) (fz : List Nat) : ∀ (l : List AO) (k o : Nat), (frH h fz k l)[o]? = (l[o]?).map fun a => if fz.elem (k + o) then AO.gone else a.frz h fz
  | [], k, o => by simp [frH]
  | a :: l, k, 0 => by simp only [frH, Nat.add_zero]; cases fz.elem k <;> rfl
  | a :: l, k, o + 1 => by simp [frH, frH_get h fz l (k + 1) o, Nat.add_assoc, Nat.add_comm 1 o]
def S.frz (s : S) (fz : List Nat) : S := ⟨s.t.map fun x => (x.1, x.2.frz s.h fz), frH s.h fz 0 s.h⟩
theorem lk_map (f : D → D) (hf : f .any = .any) : ∀ (l : List (Nat × D)) (j : Nat), lk (l.map fun x => (x.1, f x.2)) j = f (lk l j)
  | [], j => by simp [lk, hf]
  | (i, d) :: l, j => by
    simp only [List.map_cons, lk, lk_map f hf l j]
    cases Nat.beq j i <;> rfl
theorem IInv.frz {C : Cx} {s : S} {a : Act} {w : World} (h : IInv C s a w) (fz : List Nat) : IInv C (s.frz fz) a w := by
  obtain ⟨I, g, h⟩ := h
  have hsub : ∀ {o : Nat} {ao : AO}, (s.frz fz).h[o]? = some ao → ao ≠ .gone → ∃ a0, s.h[o]? = some a0 ∧ ao = a0.frz s.h fz ∧ fz.elem o = false := by
    intro o ao h1 hne
    have h1' : (frH s.h fz 0 s.h)[o]? = some ao := h1
    rw [frH_get] at h1'
    cases hq : s.h[o]? with
    | none => rw [hq] at h1'; cases h1'
    | some a0 =>
      rw [hq] at h1'
      simp only [Option.map_some, Nat.zero_add] at h1'
      injection h1' with h1'
      cases hfo : fz.elem o with
      | true => rw [hfo] at h1'; exact absurd h1'.symm hne
      | false => rw [hfo] at h1'; exact ⟨a0, rfl, h1'.symm, rfl⟩
  have hown : ∀ {p : Option Nat × Value} {a0 : AO} {b : Nat}, (a0.frz s.h fz).owns p b → a0.owns p b := by
    intro p a0 b hb
    cases a0 <;> exact hb
  have hng : ∀ {p : Option Nat × Value} {ao : AO} {b : Nat}, ao.owns p b → ao ≠ .gone := by
    intro p ao b hb e
    subst e
    exact hb
  have hI : ∀ b, I b → (I b ∨ OwnedIn fz g s.h b) := fun b hb => .inl hb
  refine ⟨fun b => I b ∨ OwnedIn fz g s.h b, g, ⟨?_, fun b hb => ?_, fun o ao p h1 h2 => ?_, fun o ao p b h1 h2 h3 hb => ?_, fun o o' ao ao' p p' b h1 h1' h2 h2' h3 h3' => ?_⟩, fun j => ?_, h.sz, h.dfr, h.ext, fun b hb => .inl (h.i1 b hb), fun b hb => ?_, fun b hb => ?_, h.gk⟩
  · have : (frH s.h fz 0 s.h).length = s.h.length := by
      have : ∀ (l : List AO) (k : Nat), (frH s.h fz k l).length = l.length := by
        intro l
        induction l with
        | nil => intro k; rfl
        | cons a l ih => intro k; simp [frH, ih]
      exact this _ _
    exact h.den.len.trans this.symm
  · rcases hb with e | e
    · exact h.den.inn b e
    · exact h.den.lt e.owned
  · cases hao : ao with
    | gone => trivial
    | cells t cs =>
      obtain ⟨a0, e1, e2, e3⟩ := hsub h1 (by rw [hao]; simp)
      rw [← hao, e2]
      have hr := h.den.obj o a0 p e1 h2
      cases a0 with
      | cells t0 cs0 =>
        obtain ⟨b, vs, rfl, hb, hv, g1⟩ := hr
        refine ⟨b, vs, rfl, hb, ⟨by rw [fl_map]; simpa using hv.1, fun i v d q1 q2 => ?_⟩, g1⟩
        rw [fl_map, List.getElem?_map] at q2
        cases hq : cs0[i]? with
        | none => rw [hq] at q2; cases q2
        | some c => rw [hq] at q2; injection q2 with q2; subst q2; exact (hv.2 i v c q1 hq).frz h.den (fun _ h => .inl h) (fun _ h => .inr h)
      | row t0 n xs => exact hr.mono hI (fun _ _ h => h)
      | gone => trivial
    | row t n xs =>
      obtain ⟨a0, e1, e2, e3⟩ := hsub h1 (by rw [hao]; simp)
      rw [← hao, e2]
      have hr := h.den.obj o a0 p e1 h2
      cases a0 with
      | cells t0 cs0 => rw [hao] at e2; cases e2
      | row t0 n xs => exact hr.mono hI (fun _ _ h => h)
      | gone => trivial
  · obtain ⟨a0, e1, e2, e3⟩ := hsub h1 (hng h3)
    rw [e2] at h3
    rcases hb with e | ⟨o', ao', p', hm, q1, q2, q3⟩
    · exact h.den.own o a0 p b e1 h2 (hown h3) e
    · have := h.den.sep o o' a0 ao' p p' b e1 q1 h2 q2 (hown h3) q3
      subst this
      have : fz.elem o = true := by simpa using hm
      rw [this] at e3
      cases e3
  · obtain ⟨a0, e1, e2, e3⟩ := hsub h1 (hng h3)
    obtain ⟨a0', e1', e2', e3'⟩ := hsub h1' (hng h3')
    rw [e2] at h3
    rw [e2'] at h3'
    exact h.den.sep o o' a0 a0' p p' b e1 e1' h2 h2' (hown h3) (hown h3')
  · show Vr _ g w _ (lk (s.t.map fun x => (x.1, x.2.frz s.h fz)) j)
    rw [lk_map (D.frz s.h fz) rfl]
    exact (h.tmp j).frz h.den (fun _ h => .inl h) (fun _ h => .inr h)
  · rcases hb with e | e
    · exact h.i2 b e
    · right; exact h.ow b e.owned
  · obtain ⟨o, ao, p, h1, h2, h3⟩ := hb
    obtain ⟨a0, e1, e2, e3⟩ := hsub h1 (hng h3)
    rw [e2] at h3
    exact h.ow b ⟨o, a0, p, e1, h2, hown h3⟩
end Go.Proofs.YtbbcepmhkocgbaaGreatDoor

/- Walks computed: the rule for a function (FnS.of_exec). No program here. -/
namespace Go.Proofs.YtbbcepmhkocgbaaGreatDoor
open Go.RowKit
set_option linter.unusedVariables false

/-- what a function does with few objects: its answers meet Post; objects of cells stay such, by their names -/
def FnS (P : Program) (f : FuncId) (az : List D) (h : List AO) (Post : D → List AO → Prop) : Prop :=
  calleeOk P f = true ∧ ∀ (w : World) (I : Nat → Prop) (g : Ghost) (vs : List Value), Den I g w h → Vrs I g w vs az → Calls P f vs.toArray w fun e w' => ∃ v I' g' r h', e = .returned v ∧ Post r h' ∧ Den I' g' w' h' ∧ Vr I' g' w' v r ∧ Ext (Owned g h) w w' ∧
    (∀ b, I b → I' b) ∧ (∀ b, I' b → I b ∨ Owned g h b ∨ w.heap.size ≤ b) ∧ (∀ b, Owned g' h' b → Owned g h b ∨ w.heap.size ≤ b) ∧
    (∀ (o : Nat) p t cs, g[o]? = some p → h[o]? = some (.cells t cs) → g'[o]? = some p ∧ ∃ t' cs', h'[o]? = some (.cells t' cs'))
def argT : Nat → List D → List (Nat × D)
  | _, [] => []
  | i, d :: ds => (i, d) :: argT (i + 1) ds
theorem lk_argT : ∀ (ds : List D) (k j : Nat), lk (argT k ds) j = if k ≤ j then (ds[j - k]?).getD .any else .any
  | [], k, j => by simp [argT, lk]
  | d :: ds, k, j => by
    simp only [argT, lk, lk_argT ds (k + 1) j]
    by_cases hj : j = k
    · subst hj
      rw [Nat.beq_refl]
      simp
    · have hb : Nat.beq j k = false := by
        cases hb : Nat.beq j k with
        | false => rfl
        | true => exact absurd (Nat.eq_of_beq_eq_true hb) hj
      rw [hb]
      simp only [cond_false]
      by_cases hk : k ≤ j
      · have : j - k = j - (k + 1) + 1 := by omega
        rw [if_pos (by omega), if_pos hk, this]
        simp
      · rw [if_neg (by omega), if_neg hk]
/-- what a function answers, out of its temporaries and variables -/
def resD (tb : TT) (s : S) : List ResultVar → Option (List D)
  | [] => some []
  | .tmp t :: r => match resD tb s r with
    | some ds => some (lk s.t t :: ds)
    | none => none
  | .cell a ty :: r => match lk s.t a with
    | .ptr o off => match lh s.h o with
      | .cells _ cs => match partD tb ty cs off, resD tb s r with
        | some d, some ds => some (d :: ds)
        | _, _ => none
      | _ => none
    | _ => none
def resV : List D → D
  | [d] => d
  | ds => .tup ds
/-- an end that is well: the rows fz are held for data; of the objects those by the names σ are handed on; the answer is r -/
def Lf (tb : TT) (rs : List ResultVar) (h : List AO) (Post : D → List AO → Prop) (e : Exit) (s : S) : Prop :=
  (e = .normal ∨ e = .ret) ∧ ∃ (fz : List Nat) (ds : List D), resD tb (s.frz fz) rs = some ds ∧ ∃ (σ : List Nat) (r r0 : D) (h' : List AO), View σ (s.frz fz).h h' ∧ Co (resV ds) r0 ∧ r0 = r.ren σ ∧
    (∀ (o : Nat) t cs, h[o]? = some (.cells t cs) → σ[o]? = some o ∧ ∃ t' cs', h'[o]? = some (.cells t' cs')) ∧ Post r h'
section
variable {P : Program}
def resFn (tmps : Array Value) : ResultVar → Sem Value
  | .tmp t => pure (tmps.getD t undef)
  | .cell a t => do loadVar t (← asAddr (tmps.getD a undef))
theorem results_eq (fn : Func) (tmps : Array Value) : results fn tmps = (do let vs ← fn.results.mapM (resFn tmps); pure (if h : vs.size = 1 then vs[0] else .tuple vs)) := by
  unfold results
  congr 1
theorem resD_ok {tb : TT} (htb : tb.ok P) {s : S} {I : Nat → Prop} {g : Ghost} {w : World} (hd : Den I g w s.h) {tmps : Array Value} (ht : ∀ j, Vr I g w (tmps.getD j undef) (lk s.t j)) :
    ∀ (rs : List ResultVar) (ds : List D), resD tb s rs = some ds → ∃ vs : List Value, (rs.mapM (resFn tmps)).run P w = .ok vs w ∧ Vrs I g w vs ds
  | [], ds, h => by
    simp only [resD] at h
    injection h with h
    subst h
    exact ⟨[], rfl, .nil⟩
  | .tmp t :: r, ds, h => by
    simp only [resD] at h
    split at h
    · rename_i ds' hr
      injection h with h
      subst h
      obtain ⟨vs, h1, h2⟩ := resD_ok htb hd ht r ds' hr
      refine ⟨tmps.getD t undef :: vs, ?_, .cons (ht t) h2⟩
      rw [List.mapM_cons, Sem.run_bind]
      have r5 : (resFn tmps (.tmp t)).run P w = .ok (tmps.getD t undef) w := rfl
      rw [r5]
      simp only [Result.andThen_ok, Sem.run_bind, h1, Sem.run_pure]
    · cases h
  | .cell a ty :: r, ds, h => by
    simp only [resD] at h
    split at h
    · rename_i o off ha
      split at h
      · rename_i ct cs hl
        split at h
        · rename_i d ds' hp hr
          injection h with h
          subst h
          obtain ⟨vs, h1, h2⟩ := resD_ok htb hd ht r ds' hr
          have hv := ht a
          rw [ha] at hv
          obtain ⟨b, bo, hg, e⟩ := hv.ptr_inv
          have hlc := lh_cells hl
          obtain ⟨b', us, hpp, hb, k1, k2⟩ := hd.obj o _ _ hlc hg
          injection hpp with hp1 hp2
          injection hp2 with hp2
          injection hp2 with hp2
          injection hp2 with hp2 _ _
          subst hp2
          obtain ⟨v, r1, r2⟩ := load_part htb hp k1 k2 b 0
          have r3 := r2 w (fun j u hj => by rw [Nat.zero_add, hb.cell]; simpa using hj)
          rw [Nat.zero_add] at r3
          refine ⟨v :: vs, ?_, .cons r1 h2⟩
          rw [List.mapM_cons, Sem.run_bind]
          have r4 : (loadVar ty ⟨b, off, none⟩).run P w = .ok v w := by
            simpa [Instr.loadAt, Instr.sureAddr] using r3
          have r5 : (resFn tmps (.cell a ty)).run P w = .ok v w := by
            simp only [resFn, e, asAddr, Sem.run_bind, Sem.run_pure, Result.andThen_ok, r4]
          rw [r5]
          simp only [Result.andThen_ok, Sem.run_bind, h1, Sem.run_pure]
        · cases h
      · cases h
    · cases h
theorem results_ok {tb : TT} (htb : tb.ok P) {s : S} {I : Nat → Prop} {g : Ghost} {w : World} (hd : Den I g w s.h) {tmps : Array Value} (ht : ∀ j, Vr I g w (tmps.getD j undef) (lk s.t j)) {fn : Func} {ds : List D} (h : resD tb s fn.results.toList = some ds) :
    ∃ v, (results fn tmps).run P w = .ok v w ∧ Vr I g w v (resV ds) := by
  obtain ⟨vs, h1, h2⟩ := resD_ok htb hd ht _ _ h
  have hm : (fn.results.mapM (resFn tmps)).run P w = .ok vs.toArray w := by
    rw [Array.mapM_eq_mapM_toList, Sem.run_map, h1]
    rfl
  have hr : (results fn tmps).run P w = .ok (if h : vs.toArray.size = 1 then vs.toArray[0] else .tuple vs.toArray) w := by
    rw [results_eq, Sem.run_bind, hm]
    rfl
  refine ⟨_, hr, ?_⟩
  match ds, vs, h2 with
  | [], [], h2 => simpa [resV] using Vr.mkTup h2
  | [d], [v], h2 =>
    obtain ⟨v', vs', e, k1, _⟩ := h2.uncons
    injection e with e1 e2
    subst e1
    simpa [resV] using k1
  | d :: d' :: ds, v :: v' :: vs, h2 => simpa [resV] using Vr.mkTup h2
  | [], v :: vs, h2 => have := h2.1; simp at this
  | [d], [], h2 => have := h2.1; simp at this
  | [d], v :: v' :: vs, h2 => have := h2.1; simp at this
  | d :: d' :: ds, [], h2 => have := h2.1; simp at this
  | d :: d' :: ds, [v], h2 => have := h2.1; simp at this
theorem FnS.of_exec {f : FuncId} {fn : Func} {c : Code} {E : En} {m : Nat} {PL : List (Nat × Plan)} {az : List D} {h : List AO} {Post : D → List AO → Prop} (hf : P.funcs[f]? = some fn) (hb : fn.body = some c) (hn : fn.ntmps = E.n) (htb : E.tb.ok P) (hmix : P.follows .mixedOrders = true) (hcal : calleeOk P f = true) (hm : h.length = m) (hal : az.length ≤ E.n)
    (hx : (execC E m PL c ⟨argT 0 az, h⟩ .leaf).ok P (Lf E.tb fn.results.toList h Post)) : FnS P f az h Post := by
  refine ⟨hcal, fun w I g vs hd hv => ?_⟩
  refine calls_of_wp hf hb ?_
  have hsz : vs.length ≤ E.n := by rw [hv.1]; exact hal
  refine execC_wp (C := ⟨w, I, g, h, E.n⟩) htb rfl hm hmix c (fun c a w d v hq => ?_) (fun e s' a' w' hi hl => ?_) ⟨I, g, ⟨hd, fun j => ?_, ?_, rfl, Ext.refl _ _, fun _ h => h, fun _ h => .inl h, fun _ h => .inl h, fun o p t cs h1 h2 => h1⟩⟩ hx
  · simp only [bodyPost] at hq ⊢
    rw [put_defers] at hq
    exact hq
  · obtain ⟨he, fz, ds, hr, σ, r, r0, h', V, hco, rfl, hcells, hpost⟩ := hl
    obtain ⟨I', g', hi'⟩ := hi.frz fz
    obtain ⟨v, hrun, hvr⟩ := results_ok htb hi'.den hi'.tmp hr
    have hσ := gv_get V hi'.den.len
    have hR : bodyPost P fn (fun e w' => ∃ v I' g' r h', e = .returned v ∧ Post r h' ∧ Den I' g' w' h' ∧ Vr I' g' w' v r ∧ Ext (Owned g h) w w' ∧
        (∀ b, I b → I' b) ∧ (∀ b, I' b → I b ∨ Owned g h b ∨ w.heap.size ≤ b) ∧ (∀ b, Owned g' h' b → Owned g h b ∨ w.heap.size ≤ b) ∧
        (∀ (o : Nat) p t cs, g[o]? = some p → h[o]? = some (.cells t cs) → g'[o]? = some p ∧ ∃ t' cs', h'[o]? = some (.cells t' cs'))) .normal a' w' := by
      refine ⟨hi'.dfr, v, hrun, v, I', gv σ g', r, h', rfl, hpost, hi'.den.view V, (hco.ok hvr).down hσ r rfl, hi'.ext, hi'.i1, hi'.i2, fun b hb => hi'.ow b (Owned.view V hi'.den.len hb).owned, fun o p t cs h1 h2 => ?_⟩
      obtain ⟨k1, k2⟩ := hcells o t cs h2
      exact ⟨by rw [hσ o o k1]; exact hi'.gk o p t cs h1 h2, k2⟩
    rcases he with rfl | rfl
    · exact hR
    · exact hR
  · rw [lk_argT]
    simp only [Nat.zero_le, if_true, Nat.sub_zero]
    cases hq : az[j]? with
    | none => exact .any _
    | some d =>
      have hlt : j < vs.length := by rw [hv.1]; exact (List.getElem?_eq_some_iff.1 hq).1
      have e : (vs.toArray ++ Array.replicate (fn.ntmps - vs.toArray.size) undef).getD j undef = vs[j] := by
        rw [Array.getD_eq_getD_getElem?, Array.getElem?_append_left (by simpa using hlt)]
        simp [hlt]
      rw [e]
      exact hv.2 j _ d (List.getElem?_eq_getElem hlt) hq
  · show (vs.toArray ++ Array.replicate (fn.ntmps - vs.toArray.size) undef).size = E.n
    simp
    omega
end
end Go.Proofs.YtbbcepmhkocgbaaGreatDoor

/- Walks computed: what a function does with few objects it does beside any others (FnS.big); what only computes (FnS.pure). No program here. -/
namespace Go.Proofs.YtbbcepmhkocgbaaGreatDoor
open Go.RowKit
set_option linter.unusedVariables false

def isC : AO → Bool
  | .cells _ _ => true
  | _ => false
def pos : List Nat → Nat → Nat → Option Nat
  | [], _, _ => none
  | s :: r, o, i => bif Nat.beq s o then some i else pos r o (i + 1)
def sgm (n : Nat) (σ : List Nat) (h : List AO) : Nat → List AO → List Nat
  | _, [] => []
  | j, _ :: r => (bif isC (lh h j) then (match ln σ j with | some o => o | none => n + j) else n + j) :: sgm n σ h (j + 1) r
def bas (σ σ' : List Nat) (h h' : List AO) : Nat → List AO → List AO
  | _, [] => []
  | o, a :: l => (match pos σ o 0 with
    | none => a
    | some i => bif isC (lh h i) then (lh h' i).ren σ' else .gone) :: bas σ σ' h h' (o + 1) l
def fre (σ' : List Nat) (h : List AO) : Nat → List AO → List AO
  | _, [] => []
  | j, a :: r => (bif isC (lh h j) then .gone else a.ren σ') :: fre σ' h (j + 1) r
/-- the names of what a callee leaves, in the caller's memory -/
def upS (hb : List AO) (σ : List Nat) (h h' : List AO) : List Nat := sgm hb.length σ h 0 h'
/-- the caller's memory behind the call -/
def upH (hb : List AO) (σ : List Nat) (h h' : List AO) : List AO := bas σ (upS hb σ h h') h h' 0 hb ++ fre (upS hb σ h h') h 0 h'
theorem pos_none : ∀ {σ : List Nat} {o i : Nat}, pos σ o i = none → o ∉ σ
  | [], o, i, _ => by simp
  | s :: r, o, i, h => by
    simp only [pos] at h
    cases hb : Nat.beq s o with
    | true => rw [hb] at h; cases h
    | false =>
      rw [hb] at h
      have := pos_none (σ := r) h
      intro hm
      rcases List.mem_cons.1 hm with rfl | hm
      · rw [Nat.beq_refl] at hb; cases hb
      · exact this hm
theorem pos_some : ∀ {σ : List Nat} {o i k : Nat}, pos σ o i = some k → i ≤ k ∧ σ[k - i]? = some o
  | [], o, i, k, h => by simp [pos] at h
  | s :: r, o, i, k, h => by
    simp only [pos] at h
    cases hb : Nat.beq s o with
    | true =>
      rw [hb] at h
      injection h with h
      subst h
      exact ⟨Nat.le_refl _, by simp [Nat.eq_of_beq_eq_true hb]⟩
    | false =>
      rw [hb] at h
      obtain ⟨h1, h2⟩ := pos_some (σ := r) h
      refine ⟨by omega, ?_⟩
      rw [show k - i = k - (i + 1) + 1 from by omega]
      simpa using h2
theorem sgm_get (n : Nat) (σ : List Nat) (h : List AO) : ∀ (l : List AO) (k j : Nat), (sgm n σ h k l)[j]? = (l[j]?).map fun _ => (bif isC (lh h (k + j)) then (match ln σ (k + j) with | some o => o | none => n + (k + j)) else n + (k + j))
  | [], k, j => by simp [sgm]
  | a :: l, k, 0 => by simp [sgm]
  | a :: l, k, j + 1 => by simp [sgm, sgm_get n σ h l (k + 1) j, Nat.add_assoc, Nat.add_comm 1 j]
theorem bas_get (σ σ' : List Nat) (h h' : List AO) : ∀ (l : List AO) (k o : Nat), (bas σ σ' h h' k l)[o]? = (l[o]?).map fun a => (match pos σ (k + o) 0 with
    | none => a
    | some i => bif isC (lh h i) then (lh h' i).ren σ' else .gone)
  | [], k, j => by simp [bas]
  | a :: l, k, 0 => by simp [bas]
  | a :: l, k, j + 1 => by simp [bas, bas_get σ σ' h h' l (k + 1) j, Nat.add_assoc, Nat.add_comm 1 j]
theorem fre_get (σ' : List Nat) (h : List AO) : ∀ (l : List AO) (k j : Nat), (fre σ' h k l)[j]? = (l[j]?).map fun a => (bif isC (lh h (k + j)) then AO.gone else a.ren σ')
  | [], k, j => by simp [fre]
  | a :: l, k, 0 => by simp [fre]
  | a :: l, k, j + 1 => by simp [fre, fre_get σ' h l (k + 1) j, Nat.add_assoc, Nat.add_comm 1 j]
theorem bas_len (σ σ' : List Nat) (h h' : List AO) : ∀ (l : List AO) (k : Nat), (bas σ σ' h h' k l).length = l.length
  | [], k => rfl
  | a :: l, k => by simp [bas, bas_len σ σ' h h' l (k + 1)]
theorem fre_len (σ' : List Nat) (h : List AO) : ∀ (l : List AO) (k : Nat), (fre σ' h k l).length = l.length
  | [], k => rfl
  | a :: l, k => by simp [fre, fre_len σ' h l (k + 1)]
theorem isC_lh {h : List AO} {j : Nat} (k : isC (lh h j) = true) : ∃ t cs, h[j]? = some (.cells t cs) := by
  cases hq : lh h j with
  | cells t cs => exact ⟨t, cs, lh_cells hq⟩
  | row t n xs => rw [hq] at k; cases k
  | gone => rw [hq] at k; cases k
section
variable {P : Program} {f : FuncId} {az : List D} {h : List AO} {Post : D → List AO → Prop}
theorem FnS.big (hF : FnS P f az h Post) {hb : List AO} {σ : List Nat} (V : View σ hb h) {as' : List D} (hc : Cos as' (D.ren.rl σ az)) {M : List Nat} (hM : ∀ o ∈ σ, o ∈ M) :
    FnB P f as' hb M fun r h2 => ∃ r0 h0, Post r0 h0 ∧ r = r0.ren (upS hb σ h h0) ∧ h2 = upH hb σ h h0 := by
  refine ⟨hF.1, fun w I g vs hd hv => ?_⟩
  have hσ := gv_get V hd.len
  have hds := hd.view V
  refine (hF.2 w I (gv σ g) vs hds ((hc.ok hv).down hσ)).mono ?_
  rintro e w' ⟨v, I', gs', r0, h0, rfl, hpost, hd0, hv0, hx, i1, i2, ow, ck⟩
  have hgl : g.length = hb.length := hd.len
  have h0l : gs'.length = h0.length := hd0.len
  -- the names
  have hup : ∀ (j : Nat) p, gs'[j]? = some p → ∃ o, (upS hb σ h h0)[j]? = some o ∧ (g ++ gs')[o]? = some p ∧ ((isC (lh h j) = true ∧ σ[j]? = some o) ∨ (isC (lh h j) = false ∧ o = hb.length + j)) := by
    intro j p hp
    have hj : j < h0.length := by rw [← h0l]; exact (List.getElem?_eq_some_iff.1 hp).1
    have e := sgm_get hb.length σ h h0 0 j
    rw [List.getElem?_eq_getElem hj, Nat.zero_add] at e
    simp only [Option.map_some] at e
    cases hq : isC (lh h j) with
    | true =>
      obtain ⟨t, cs, hcs⟩ := isC_lh hq
      have hlt : j < σ.length := by rw [V.len]; exact (List.getElem?_eq_some_iff.1 hcs).1
      have hs := List.getElem?_eq_getElem hlt
      refine ⟨σ[j], ?_, ?_, .inl ⟨rfl, hs⟩⟩
      · rw [upS, e, hq, ln_get, hs]; rfl
      · have e1 := hσ j _ hs
        have hg : g[σ[j]]? = some (g[σ[j]]'(by rw [hgl]; exact V.lt hs)) := List.getElem?_eq_getElem _
        rw [hg] at e1
        have := (ck j _ t cs e1 hcs).1
        rw [hp] at this
        injection this with this
        rw [List.getElem?_append_left (by rw [hgl]; exact V.lt hs), hg, this]
    | false =>
      refine ⟨hb.length + j, ?_, ?_, .inr ⟨rfl, rfl⟩⟩
      · rw [upS, e, hq]; rfl
      · rw [← hgl, List.getElem?_append_right (by omega)]
        simpa using hp
  have hup1 : ∀ (j : Nat) p, gs'[j]? = some p → ∃ o, (upS hb σ h h0)[j]? = some o ∧ (g ++ gs')[o]? = some p := fun j p hp => let ⟨o, a, b, _⟩ := hup j p hp; ⟨o, a, b⟩
  -- who lies there
  have who : ∀ (o : Nat) ao p, (upH hb σ h h0)[o]? = some ao → (g ++ gs')[o]? = some p → ao ≠ .gone →
      (o < hb.length ∧ o ∉ σ ∧ hb[o]? = some ao ∧ g[o]? = some p) ∨ (∃ j a0, h0[j]? = some a0 ∧ gs'[j]? = some p ∧ ao = a0.ren (upS hb σ h h0) ∧ (upS hb σ h h0)[j]? = some o ∧ ((isC (lh h j) = true ∧ σ[j]? = some o) ∨ (isC (lh h j) = false ∧ o = hb.length + j))) := by
    intro o ao p h1 h2 hne
    rw [upH, List.getElem?_append, bas_len] at h1
    split at h1
    · rename_i hlt
      rw [bas_get, Nat.zero_add] at h1
      have hg : g[o]? = some p := by rw [List.getElem?_append_left (by omega)] at h2; exact h2
      cases hbo : hb[o]? with
      | none => rw [hbo] at h1; cases h1
      | some a =>
        rw [hbo] at h1
        simp only [Option.map_some] at h1
        injection h1 with h1
        cases hp : pos σ o 0 with
        | none =>
          rw [hp] at h1
          simp only at h1
          subst h1
          exact .inl ⟨hlt, pos_none hp, rfl, hg⟩
        | some i =>
          rw [hp] at h1
          simp only at h1
          obtain ⟨_, hi⟩ := pos_some hp
          rw [Nat.sub_zero] at hi
          cases hq : isC (lh h i) with
          | false => rw [hq] at h1; exact absurd h1.symm hne
          | true =>
            rw [hq] at h1
            simp only [cond_true] at h1
            obtain ⟨t, cs, hcs⟩ := isC_lh hq
            have e1 : (gv σ g)[i]? = some p := by rw [hσ i o hi]; exact hg
            obtain ⟨e2, t', cs', e3⟩ := ck i p t cs e1 hcs
            obtain ⟨o2, k1, k2, k3⟩ := hup i p e2
            have ho : o2 = o := by
              rcases k3 with ⟨_, k⟩ | ⟨k, _⟩
              · rw [hi] at k; injection k with k; exact k.symm
              · rw [hq] at k; cases k
            subst ho
            have e4 : lh h0 i = .cells t' cs' := by
              rcases lh_get h0 i with e | e
              · have hlt0 := (List.getElem?_eq_some_iff.1 e3).1
                have : ∀ (l : List AO) (n : Nat) a, l[n]? = some a → lh l n = a := by
                  intro l
                  induction l with
                  | nil => intro n a h; simp at h
                  | cons b l ih =>
                    intro n a h
                    cases n with
                    | zero => simp at h; simp [lh, h]
                    | succ n => simp at h; simp [lh, ih n a h]
                exact this h0 i _ e3
              · rw [e3] at e; injection e with e; exact e.symm
            exact .inr ⟨i, _, e3, e2, by rw [← h1, e4], k1, k3⟩
    · rename_i hge
      rw [fre_get, Nat.zero_add] at h1
      have hge' : hb.length ≤ o := by omega
      cases hh : h0[o - hb.length]? with
      | none => rw [hh] at h1; cases h1
      | some a0 =>
        rw [hh] at h1
        simp only [Option.map_some] at h1
        injection h1 with h1
        cases hq : isC (lh h (o - hb.length)) with
        | true => rw [hq] at h1; exact absurd h1.symm hne
        | false =>
          rw [hq] at h1
          simp only [cond_false] at h1
          have hg : gs'[o - hb.length]? = some p := by
            rw [List.getElem?_append_right (by omega), hgl] at h2; exact h2
          obtain ⟨o2, k1, k2, k3⟩ := hup _ p hg
          have ho : o2 = o := by
            rcases k3 with ⟨k, _⟩ | ⟨_, k⟩
            · rw [hq] at k; cases k
            · omega
          subst ho
          exact .inr ⟨_, a0, hh, hg, h1.symm, k1, k3⟩
  have hng : ∀ {p : Option Nat × Value} {ao : AO} {b : Nat}, ao.owns p b → ao ≠ .gone := by
    intro p ao b hb e
    subst e
    exact hb
  -- what nobody touched
  have hold : ∀ (o : Nat) ao p b, o ∉ σ → hb[o]? = some ao → g[o]? = some p → ao.owns p b → ¬ Owned (gv σ g) h b ∧ b < w.heap.size := by
    intro o ao p b hn h1 h2 h3
    refine ⟨fun hO => ?_, hd.lt ⟨o, ao, p, h1, h2, h3⟩⟩
    obtain ⟨o2, ao2, p2, hm, q1, q2, q3⟩ := Owned.view V hd.len hO
    have := hd.sep o o2 ao ao2 p p2 b h1 q1 h2 q2 h3 q3
    subst this
    exact hn hm
  have hIn : ∀ b, I b → ¬ Owned (gv σ g) h b := by
    rintro b hb' ⟨o, ao, p, q1, q2, q3⟩
    exact hds.own o ao p b q1 q2 q3 hb'
  have hOM : ∀ b, Owned (gv σ g) h b → OwnedIn M g hb b := by
    intro b hO
    obtain ⟨o2, ao2, p2, hm, q1, q2, q3⟩ := Owned.view V hd.len hO
    exact ⟨o2, ao2, p2, hM o2 hm, q1, q2, q3⟩
  refine ⟨v, I', g ++ gs', r0.ren (upS hb σ h h0), upH hb σ h h0, rfl, ⟨r0, h0, hpost, rfl, rfl⟩, ⟨⟨?_, hd0.inn, fun o ao p h1 h2 => ?_, fun o ao p b h1 h2 h3 hI => ?_, fun o o' ao ao' p p' b h1 h1' h2 h2' h3 h3' => ?_⟩, hx.mono (fun b _ hO => hOM b hO), i1, fun b hb' => (i2 b hb').imp id (Or.imp (hOM b) id), fun o p hp => by rw [List.getElem?_append_left (List.getElem?_eq_some_iff.1 hp).1]; exact hp, fun o ho hn => ?_, fun o ao p b ho h1 h2 h3 => ?_, fun o ao p b ho h1 h2 h3 => ?_⟩, hv0.up hup1⟩
  · rw [upH, List.length_append, List.length_append, bas_len, fre_len, hgl, h0l]
  · by_cases hne : ao = .gone
    · subst hne; trivial
    · rcases who o ao p h1 h2 hne with ⟨_, hn, q1, q2⟩ | ⟨j, a0, q1, q2, rfl, _, _⟩
      · exact ((hd.obj o ao p q1 q2).ext hx hIn (fun b hb' => (hold o ao p b hn q1 q2 hb').1)).mono i1 (fun o p hp => by rw [List.getElem?_append_left (List.getElem?_eq_some_iff.1 hp).1]; exact hp)
      · exact (hd0.obj j a0 p q1 q2).up hup1
  · rcases who o ao p h1 h2 (hng h3) with ⟨_, hn, q1, q2⟩ | ⟨j, a0, q1, q2, rfl, _, _⟩
    · obtain ⟨k1, k2⟩ := hold o ao p b hn q1 q2 h3
      rcases i2 b hI with e | e | e
      · exact hd.own o ao p b q1 q2 h3 e
      · exact k1 e
      · omega
    · exact hd0.own j a0 p b q1 q2 ((AO.owns_ren _ p a0 b).1 h3) hI
  · rcases who o ao p h1 h2 (hng h3) with ⟨_, hn, q1, q2⟩ | ⟨j, a0, q1, q2, rfl, q3, _⟩ <;> rcases who o' ao' p' h1' h2' (hng h3') with ⟨_, hn', q1', q2'⟩ | ⟨j', a0', q1', q2', rfl, q3', _⟩
    · exact hd.sep o o' ao ao' p p' b q1 q1' q2 q2' h3 h3'
    · obtain ⟨k1, k2⟩ := hold o ao p b hn q1 q2 h3
      rcases ow b ⟨j', a0', p', q1', q2', (AO.owns_ren _ p' a0' b).1 h3'⟩ with e | e
      · exact absurd e k1
      · omega
    · obtain ⟨k1, k2⟩ := hold o' ao' p' b hn' q1' q2' h3'
      rcases ow b ⟨j, a0, p, q1, q2, (AO.owns_ren _ p a0 b).1 h3⟩ with e | e
      · exact absurd e k1
      · omega
    · have := hd0.sep j j' a0 a0' p p' b q1 q1' q2 q2' ((AO.owns_ren _ p a0 b).1 h3) ((AO.owns_ren _ p' a0' b).1 h3')
      subst this
      rw [q3] at q3'
      injection q3'
  · have hns : o ∉ σ := fun hm => hn (hM o hm)
    rw [upH, List.getElem?_append_left (by rw [bas_len]; exact ho), bas_get, Nat.zero_add]
    cases hp : pos σ o 0 with
    | none => simp
    | some i =>
      obtain ⟨_, hi⟩ := pos_some hp
      rw [Nat.sub_zero] at hi
      exact absurd (List.mem_of_getElem? hi) hns
  · rcases who o ao p h1 h2 (hng h3) with ⟨_, hn, q1, q2⟩ | ⟨j, a0, q1, q2, rfl, q3, q4⟩
    · exact ⟨ao, q1, h3⟩
    · rcases q4 with ⟨k1, k2⟩ | ⟨_, k⟩
      · obtain ⟨t, cs, hcs⟩ := isC_lh k1
        have e1 := V.obj j o _ k2 hcs
        have hg : (gv σ g)[j]? = g[o]? := hσ j o k2
        have hgs : g[o]? = some (g[o]'(by rw [hgl]; exact ho)) := List.getElem?_eq_getElem _
        rw [hgs] at hg
        obtain ⟨e2, t', cs', e3⟩ := ck j _ t cs hg hcs
        rw [q2] at e2
        injection e2 with e2
        rw [q1] at e3
        injection e3 with e3
        subst e3
        refine ⟨_, e1, ?_⟩
        have h4 : p.1 = some b := h3
        exact h4
      · omega
  · rcases who o ao p h1 h2 (hng h3) with ⟨hlt, _, _, _⟩ | ⟨j, a0, q1, q2, rfl, q3, q4⟩
    · omega
    · exact (ow b ⟨j, a0, p, q1, q2, (AO.owns_ren _ p a0 b).1 h3⟩).imp (hOM b) id
/-- a function that takes no objects, beside any -/
theorem FnS.pure {R : D → Prop} (hF : FnS P f az [] (fun r h' => R r ∧ h' = [])) (hp : pureD.pl az = true) {as' : List D} (hc : Cos as' az) {hb : List AO} {M : List Nat} : FnB P f as' hb M fun r h2 => R r ∧ h2 = hb := by
  refine ⟨hF.1, fun w I g vs hd hv => ?_⟩
  have hd0 : Den I [] w [] := ⟨rfl, hd.inn, fun o ao p h1 => by simp at h1, fun o ao p b h1 => by simp at h1, fun o o' ao ao' p p' b h1 => by simp at h1⟩
  refine (hF.2 w I [] vs hd0 (pureL_ok (hc.ok hv) hp).vrs).mono ?_
  rintro e w' ⟨v, I', gs', r0, h0, rfl, ⟨hR, rfl⟩, hd1, hv0, hx, i1, i2, ow, ck⟩
  have hg : gs' = [] := List.eq_nil_of_length_eq_zero hd1.len
  subst hg
  have hno : ∀ b, ¬ Owned [] [] b := by rintro b ⟨o, ao, p, q1, _⟩; simp at q1
  have hx' : Ext (fun _ => False) w w' := hx.mono (fun b _ hb => hno b hb)
  refine ⟨v, I', g, r0, hb, rfl, ⟨hR, rfl⟩, ⟨((hd.ext hx' (fun _ _ => id) (fun _ _ => id))).inns i1 hd1.inn (fun b hI hO => ?_), hx'.mono (fun _ _ h => h.elim), i1, fun b hI => (i2 b hI).imp id (Or.imp (fun h => absurd h (hno b)) id), fun _ _ h => h, fun _ _ _ => rfl, fun o ao p b ho h1 _ h3 => ⟨ao, h1, h3⟩, fun o ao p b ho h1 _ _ => by have := (List.getElem?_eq_some_iff.1 h1).1; omega⟩, hv0.mono (fun _ h => h) (fun o p h => by simp at h)⟩
  have hlt := hd.lt hO
  rcases i2 b hI with e | e | e
  · obtain ⟨o, ao, p, q1, q2, q3⟩ := hO
    exact hd.own o ao p b q1 q2 q3 e
  · exact hno b e
  · omega
end
end Go.Proofs.YtbbcepmhkocgbaaGreatDoor

/- Typed readings (Ty) as data (D): 'Dt', and that both say the same (Lk). No program here. -/
namespace Go.Proofs.YtbbcepmhkocgbaaGreatDoor
open Go.RowKit
set_option linter.unusedVariables false

/-- a type's data: its cells; what may be -/
structure Dt (α : Type) where
  c : α → List D
  n : Nat
  ok : α → Prop
  len : ∀ a, (c a).length = n
def dI : Dt Int := ⟨fun a => [.int .i64 a], 1, fun a => -9223372036854775808 ≤ a ∧ a ≤ 9223372036854775807, fun _ => rfl⟩
def dW : Dt Int := ⟨fun a => [.int .u16 a], 1, fun a => 0 ≤ a ∧ a ≤ 65535, fun _ => rfl⟩
def dB : Dt Bool := ⟨fun a => [.bool a], 1, fun _ => True, fun _ => rfl⟩
def dS : Dt (List UInt8) := ⟨fun a => [.str a], 1, fun a => a.length ≤ 4194304, fun _ => rfl⟩
def dY : Dt (List UInt8) := ⟨fun a => [.list 1 (a.map cByte)], 1, fun a => a.length ≤ 4194304, fun _ => rfl⟩
def dP {α β : Type} (A : Dt α) (B : Dt β) : Dt (α × β) := ⟨fun p => A.c p.1 ++ B.c p.2, A.n + B.n, fun p => A.ok p.1 ∧ B.ok p.2, fun p => by rw [List.length_append, A.len, B.len]⟩
def dM {α β : Type} (A : Dt α) (f : β → α) : Dt β := ⟨fun b => A.c (f b), A.n, fun b => A.ok (f b), fun b => A.len _⟩
def dL {α : Type} (A : Dt α) : Dt (List α) := ⟨fun xs => [.list A.n (xs.map A.c)], 1, fun xs => xs.length ≤ 4194304 ∧ ∀ x ∈ xs, A.ok x, fun _ => rfl⟩
/-- a reading and its data say the same -/
structure Lk {α : Type} (T : Ty α) (A : Dt α) : Prop where
  n : T.n = A.n
  to : ∀ {inn : Nat → Prop} {w : World} {cs : List Value} {a : α}, T.rd inn w cs a → Drs inn w cs (A.c a) ∧ A.ok a ∧ ∀ v ∈ cs, v.oneCell' = true
  of : ∀ {I : Nat → Prop} {w : World} {cs : List Value} {a : α}, Drs I w cs (A.c a) → A.ok a → T.rd I w cs a
theorem Drs.one {I : Nat → Prop} {w : World} {v : Value} {d : D} (h : Dr I w v d) : Drs I w [v] [d] := ⟨rfl, fun i a b h1 h2 => by
  cases i with
  | zero => simp at h1 h2; subst h1 h2; exact h
  | succ i => simp at h1⟩
theorem Drs.one_inv {I : Nat → Prop} {w : World} {cs : List Value} {d : D} (h : Drs I w cs [d]) : ∃ v, cs = [v] ∧ Dr I w v d := by
  obtain ⟨hl, h⟩ := h
  match cs, hl with
  | [v], _ => exact ⟨v, rfl, h 0 v d rfl rfl⟩
theorem LkI : Lk tI dI where
  n := rfl
  to h := by
    obtain ⟨rfl, h1⟩ := h
    exact ⟨.one (.int _ _), h1, by simp [Value.oneCell']⟩
  of h k := by
    obtain ⟨v, rfl, hv⟩ := h.one_inv
    cases hv
    exact ⟨rfl, k⟩
theorem LkW : Lk tW dW where
  n := rfl
  to h := by
    obtain ⟨rfl, h1⟩ := h
    exact ⟨.one (.int _ _), h1, by simp [Value.oneCell']⟩
  of h k := by
    obtain ⟨v, rfl, hv⟩ := h.one_inv
    cases hv
    exact ⟨rfl, k⟩
theorem LkB : Lk tB dB where
  n := rfl
  to {_ _ cs a} h := by
    have h : cs = [.bool a] := h
    subst h
    exact ⟨.one (.bool _), trivial, by simp [Value.oneCell']⟩
  of h k := by
    obtain ⟨v, rfl, hv⟩ := h.one_inv
    cases hv
    rfl
theorem LkS : Lk tS dS where
  n := rfl
  to h := by
    obtain ⟨rfl, h1⟩ := h
    exact ⟨.one (.str _), h1, by simp [Value.oneCell']⟩
  of h k := by
    obtain ⟨v, rfl, hv⟩ := h.one_inv
    cases hv
    exact ⟨rfl, k⟩
theorem LkY : Lk tY dY where
  n := rfl
  to h := by
    obtain ⟨v, rfl, hb, hi, hl⟩ := h
    refine ⟨.one (hb.dr hi), hl, ?_⟩
    obtain ⟨A, c, rfl⟩ := hb.rd.slice
    simp [Value.oneCell']
  of {I _ _ _} h k := by
    obtain ⟨v, rfl, hv⟩ := h.one_inv
    clear h
    have h := hv
    clear hv
    have k' : _ ≤ 4194304 := k
    refine ⟨v, rfl, h.bs (by unfold big; omega), fun g hg hne => ?_, k⟩
    generalize hq : (D.list 1 _) = q at h
    cases h <;> try (cases hq; done)
    rename_i A cap n l xs U hl0 hl hm hnone hlen hA g1 hU
    injection hq with h1 h2
    subst h1 h2
    obtain ⟨b, off, rfl, _, hI, _⟩ := hA (by rw [hl0]; simpa using List.length_pos_iff.2 hne)
    have : b = g := by simpa [Value.ownBlock] using hg
    subst this
    exact hI
theorem Drs.split {I : Nat → Prop} {w : World} {cs : List Value} {xs ys : List D} (h : Drs I w cs (xs ++ ys)) : ∃ c d, cs = c ++ d ∧ Drs I w c xs ∧ Drs I w d ys := by
  have hl := h.1
  rw [List.length_append] at hl
  refine ⟨cs.take xs.length, cs.drop xs.length, (List.take_append_drop _ _).symm, ⟨by rw [List.length_take]; omega, fun i v d h1 h2 => ?_⟩, ⟨by rw [List.length_drop]; omega, fun i v d h1 h2 => ?_⟩⟩
  · rw [List.getElem?_take] at h1
    split at h1
    · exact h.2 i v d h1 (by rw [List.getElem?_append_left (by assumption)]; exact h2)
    · cases h1
  · rw [List.getElem?_drop] at h1
    exact h.2 _ v d h1 (by rw [List.getElem?_append_right (by omega)]; simpa using h2)
theorem LkP {α β : Type} {T : Ty α} {U : Ty β} {A : Dt α} {B : Dt β} (h : Lk T A) (k : Lk U B) : Lk (tP T U) (dP A B) where
  n := by show T.n + U.n = A.n + B.n; rw [h.n, k.n]
  to q := by
    obtain ⟨c, d, rfl, q1, q2⟩ := q
    obtain ⟨a1, a2, a3⟩ := h.to q1
    obtain ⟨b1, b2, b3⟩ := k.to q2
    exact ⟨a1.append b1, ⟨a2, b2⟩, fun v hv => by rcases List.mem_append.1 hv with e | e; exact a3 v e; exact b3 v e⟩
  of q ok := by
    obtain ⟨c, d, rfl, q1, q2⟩ := Drs.split q
    exact ⟨c, d, rfl, h.of q1 ok.1, k.of q2 ok.2⟩
theorem LkM {α β : Type} {T : Ty α} {A : Dt α} (f : β → α) (h : Lk T A) : Lk (tM T f) (dM A f) where
  n := h.n
  to q := h.to q
  of q ok := h.of q ok
theorem LkL {α : Type} {T : Ty α} {A : Dt α} (h : Lk T A) : Lk (tL T) (dL A) where
  n := rfl
  to {inn w cs xs} q := by
    obtain ⟨P, cap, rfl, h1, h2, h3, h4, h5⟩ := q
    have key : ∀ i, ∃ ys : List Value, i < xs.length → ∃ x b off, xs[i]? = some x ∧ P = some ⟨b, off, none⟩ ∧ b < w.heap.size ∧ inn b ∧ T.rd inn w ys x ∧ ∀ j v, ys[j]? = some v → w.cell? ⟨b, off + i * T.n + j, none⟩ = some v := by
      intro i
      by_cases hi : i < xs.length
      · obtain ⟨b, off, e, hb, hin, hel⟩ := h5 (by omega)
        obtain ⟨ys, k1, k2⟩ := hel i _ (List.getElem?_eq_getElem hi)
        exact ⟨ys, fun _ => ⟨_, b, off, List.getElem?_eq_getElem hi, e, hb, hin, k1, k2⟩⟩
      · exact ⟨[], fun h => absurd h hi⟩
    let Y : Nat → List Value := fun i => Classical.choose (key i)
    have hY : ∀ i, i < xs.length → ∃ x b off, xs[i]? = some x ∧ P = some ⟨b, off, none⟩ ∧ b < w.heap.size ∧ inn b ∧ T.rd inn w (Y i) x ∧ ∀ j v, (Y i)[j]? = some v → w.cell? ⟨b, off + i * T.n + j, none⟩ = some v := fun i hi => Classical.choose_spec (key i) hi
    have hget : ∀ (i : Nat) x (j : Nat) d, (xs.map A.c)[i]? = some x → x[j]? = some d → ∃ a v, xs[i]? = some a ∧ x = A.c a ∧ i < xs.length ∧ (Y i)[j]? = some v ∧ Dr inn w v d ∧ v.oneCell' = true := by
      intro i x j d hx hj
      rw [List.getElem?_map] at hx
      cases hq : xs[i]? with
      | none => rw [hq] at hx; cases hx
      | some a =>
        rw [hq] at hx
        injection hx with hx
        subst hx
        have hi := (List.getElem?_eq_some_iff.1 hq).1
        obtain ⟨a', b, off, e1, e2, e3, e4, e5, e6⟩ := hY i hi
        rw [hq] at e1
        injection e1 with e1
        subst e1
        obtain ⟨d1, _, d3⟩ := h.to e5
        have hlt : j < (Y i).length := by rw [d1.1]; exact (List.getElem?_eq_some_iff.1 hj).1
        exact ⟨a, _, rfl, rfl, hi, List.getElem?_eq_getElem hlt, d1.2 j _ d (List.getElem?_eq_getElem hlt) hj, d3 _ (List.getElem_mem _)⟩
    refine ⟨.one (.list P cap A.n xs.length (xs.map A.c) (fun i j => (Y i).getD j undef) (by simp) h1 h2 h3 (fun x hx => ?_) (fun h0 => ?_) (fun i x j d hx hj => ?_) (fun i x j d hx hj => ?_)), ⟨h4, fun x hx => ?_⟩, by simp [Value.oneCell']⟩
    · obtain ⟨a, _, rfl⟩ := List.mem_map.1 hx
      exact A.len a
    · obtain ⟨b, off, e, hb, hin, hel⟩ := h5 h0
      refine ⟨b, off, e, hb, hin, fun i x j d hx hj => ?_⟩
      obtain ⟨a, v, q1, q2, hi, q3, _⟩ := hget i x j d hx hj
      obtain ⟨a', b', off', e1, e2, e3, e4, e5, e6⟩ := hY i hi
      rw [e] at e2
      injection e2 with e2
      injection e2 with e2 e2' _
      subst e2 e2'
      rw [← h.n, e6 j v q3]
      simp [List.getD, q3]
    · obtain ⟨a, v, q1, q2, hi, q3, q4, q5⟩ := hget i x j d hx hj
      simp only [List.getD, q3, Option.getD_some]
      exact q5
    · obtain ⟨a, v, q1, q2, hi, q3, q4, q5⟩ := hget i x j d hx hj
      simp only [List.getD, q3, Option.getD_some]
      exact q4
    · obtain ⟨i, hi⟩ := List.getElem?_of_mem hx
      have hlt := (List.getElem?_eq_some_iff.1 hi).1
      obtain ⟨a', b', off', e1, e2, e3, e4, e5, e6⟩ := hY i hlt
      rw [hi] at e1
      injection e1 with e1
      subst e1
      exact (h.to e5).2.1
  of {I w cs xs} q ok := by
    obtain ⟨v, rfl, qv⟩ := q.one_inv
    clear q
    have q := qv
    clear qv
    generalize hq : (D.list A.n (xs.map A.c)) = d at q
    cases q <;> try (cases hq; done)
    rename_i P cap n l ys U hl0 hl hm hnone hlen hA g1 hU
    injection hq with e1 e2
    subst e1 e2
    rw [List.length_map] at hl0
    subst hl0
    refine ⟨P, cap, rfl, hl, hm, hnone, ok.1, fun h0 => ?_⟩
    obtain ⟨b, off, rfl, hb, hI, hc⟩ := hA h0
    refine ⟨b, off, rfl, hb, hI, fun i x hx => ⟨(List.range A.n).map (U i), h.of ⟨by simp [A.len], fun j v d h1 h2 => ?_⟩ (ok.2 x (List.mem_of_getElem? hx)), fun j v hj => ?_⟩⟩
    · have hlt : j < A.n := by have := (List.getElem?_eq_some_iff.1 h1).1; simpa using this
      rw [List.getElem?_map, List.getElem?_range hlt] at h1
      injection h1 with h1
      subst h1
      exact hU i (A.c x) j d (by rw [List.getElem?_map, hx]; rfl) h2
    · have hlt : j < A.n := by have := (List.getElem?_eq_some_iff.1 hj).1; simpa using this
      rw [List.getElem?_map, List.getElem?_range hlt] at hj
      injection hj with hj
      subst hj
      have hlt2 : j < (A.c x).length := by rw [A.len]; exact hlt
      rw [h.n]
      exact hc i (A.c x) j _ (by rw [List.getElem?_map, hx]; rfl) (List.getElem?_eq_getElem hlt2)
end Go.Proofs.YtbbcepmhkocgbaaGreatDoor

/- The types of package api as data: their cells (printed by gen_sv.py). No program here. -/
namespace Go.Proofs.YtbbcepmhkocgbaaGreatDoor
set_option linter.unusedVariables false

def cRec (b : List UInt8) : List D := [.list 1 (b.map cByte)]
def cNum (n : Int) : List D := [.int .i64 n]
def dSign : Dt SignD := dM (dP dI dI) (fun s : SignD => (s.key, s.digest))
def cSign (s : SignD) : List D := [.int .i64 s.key, .int .i64 s.digest]
set_option maxRecDepth 10000 in
theorem dSign_c : dSign.c = cSign := rfl
set_option maxRecDepth 10000 in
theorem LkSign : Lk tSign dSign := LkM _ (LkP LkI LkI)
def dOp : Dt OpD := dM (dP dI (dP dS (dP dS (dP dI (dL dY))))) (fun s : OpD => (s.kind, s.topic, s.group, s.offset, s.records))
def cOp (s : OpD) : List D := [.int .i64 s.kind, .str s.topic, .str s.group, .int .i64 s.offset, .list 1 (s.records.map cRec)]
set_option maxRecDepth 10000 in
theorem dOp_c : dOp.c = cOp := rfl
set_option maxRecDepth 10000 in
theorem LkOp : Lk tOp dOp := LkM _ (LkP LkI (LkP LkS (LkP LkS (LkP LkI (LkL LkY)))))
def dResult : Dt ResultD := dM (dP dI dI) (fun s : ResultD => (s.err, s.offset))
def cResult (s : ResultD) : List D := [.int .i64 s.err, .int .i64 s.offset]
set_option maxRecDepth 10000 in
theorem dResult_c : dResult.c = cResult := rfl
set_option maxRecDepth 10000 in
theorem LkResult : Lk tResult dResult := LkM _ (LkP LkI LkI)
def dRequest : Dt RequestD := dM (dP dI (dP dI dOp)) (fun s : RequestD => (s.client, s.time, s.op))
def cRequest (s : RequestD) : List D := [.int .i64 s.client, .int .i64 s.time, .int .i64 s.op.kind, .str s.op.topic, .str s.op.group, .int .i64 s.op.offset, .list 1 (s.op.records.map cRec)]
set_option maxRecDepth 10000 in
theorem dRequest_c : dRequest.c = cRequest := rfl
set_option maxRecDepth 10000 in
theorem LkRequest : Lk tRequest dRequest := LkM _ (LkP LkI (LkP LkI LkOp))
def dSigned : Dt SignedD := dM (dP dRequest dSign) (fun s : SignedD => (s.request, s.sign))
def cSigned (s : SignedD) : List D := [.int .i64 s.request.client, .int .i64 s.request.time, .int .i64 s.request.op.kind, .str s.request.op.topic, .str s.request.op.group, .int .i64 s.request.op.offset, .list 1 (s.request.op.records.map cRec), .int .i64 s.sign.key, .int .i64 s.sign.digest]
set_option maxRecDepth 10000 in
theorem dSigned_c : dSigned.c = cSigned := rfl
set_option maxRecDepth 10000 in
theorem LkSigned : Lk tSigned dSigned := LkM _ (LkP LkRequest LkSign)
def dHeader : Dt HeaderD := dM (dP dI (dP dI (dP dI (dP dI dI)))) (fun s : HeaderD => (s.seq, s.prev, s.batch, s.root, s.state))
def cHeader (s : HeaderD) : List D := [.int .i64 s.seq, .int .i64 s.prev, .int .i64 s.batch, .int .i64 s.root, .int .i64 s.state]
set_option maxRecDepth 10000 in
theorem dHeader_c : dHeader.c = cHeader := rfl
set_option maxRecDepth 10000 in
theorem LkHeader : Lk tHeader dHeader := LkM _ (LkP LkI (LkP LkI (LkP LkI (LkP LkI LkI))))
def dCert : Dt CertD := dM (dP dI (dP dI (dL dSign))) (fun s : CertD => (s.seq, s.digest, s.signs))
def cCert (s : CertD) : List D := [.int .i64 s.seq, .int .i64 s.digest, .list 2 (s.signs.map cSign)]
set_option maxRecDepth 10000 in
theorem dCert_c : dCert.c = cCert := rfl
set_option maxRecDepth 10000 in
theorem LkCert : Lk tCert dCert := LkM _ (LkP LkI (LkP LkI (LkL LkSign)))
def dPrepared : Dt PreparedD := dM (dP dI (dP dI (dP dI (dP dSign (dP (dL dSign) (dL dSigned)))))) (fun s : PreparedD => (s.view, s.seq, s.digest, s.firstS, s.signs, s.batch))
def cPrepared (s : PreparedD) : List D := [.int .i64 s.view, .int .i64 s.seq, .int .i64 s.digest, .int .i64 s.firstS.key, .int .i64 s.firstS.digest, .list 2 (s.signs.map cSign), .list 9 (s.batch.map cSigned)]
set_option maxRecDepth 10000 in
theorem dPrepared_c : dPrepared.c = cPrepared := rfl
set_option maxRecDepth 10000 in
theorem LkPrepared : Lk tPrepared dPrepared := LkM _ (LkP LkI (LkP LkI (LkP LkI (LkP LkSign (LkP (LkL LkSign) (LkL LkSigned))))))
def dChange : Dt ChangeD := dM (dP dI (dP dI (dP dCert (dP (dL dPrepared) dSign)))) (fun s : ChangeD => (s.view, s.src, s.cert, s.above, s.sign))
def cChange (s : ChangeD) : List D := [.int .i64 s.view, .int .i64 s.src, .int .i64 s.cert.seq, .int .i64 s.cert.digest, .list 2 (s.cert.signs.map cSign), .list 7 (s.above.map cPrepared), .int .i64 s.sign.key, .int .i64 s.sign.digest]
set_option maxRecDepth 10000 in
theorem dChange_c : dChange.c = cChange := rfl
set_option maxRecDepth 10000 in
theorem LkChange : Lk tChange dChange := LkM _ (LkP LkI (LkP LkI (LkP LkCert (LkP (LkL LkPrepared) LkSign))))
def dEntry : Dt EntryD := dM (dP dI (dP dI (dP (dL dSigned) dSign))) (fun s : EntryD => (s.view, s.seq, s.batch, s.sign))
def cEntry (s : EntryD) : List D := [.int .i64 s.view, .int .i64 s.seq, .list 9 (s.batch.map cSigned), .int .i64 s.sign.key, .int .i64 s.sign.digest]
set_option maxRecDepth 10000 in
theorem dEntry_c : dEntry.c = cEntry := rfl
set_option maxRecDepth 10000 in
theorem LkEntry : Lk tEntry dEntry := LkM _ (LkP LkI (LkP LkI (LkP (LkL LkSigned) LkSign)))
def dProof : Dt ProofD := dM (dP dS (dP dI (dP dY (dP (dL dHeader) (dP dI (dP dI (dP (dL dI) dCert))))))) (fun s : ProofD => (s.topic, s.offset, s.record, s.headers, s.index, s.count, s.path, s.cert))
def cProof (s : ProofD) : List D := [.str s.topic, .int .i64 s.offset, .list 1 (s.record.map cByte), .list 5 (s.headers.map cHeader), .int .i64 s.index, .int .i64 s.count, .list 1 (s.path.map cNum), .int .i64 s.cert.seq, .int .i64 s.cert.digest, .list 2 (s.cert.signs.map cSign)]
set_option maxRecDepth 10000 in
theorem dProof_c : dProof.c = cProof := rfl
set_option maxRecDepth 10000 in
theorem LkProof : Lk tProof dProof := LkM _ (LkP LkS (LkP LkI (LkP LkY (LkP (LkL LkHeader) (LkP LkI (LkP LkI (LkP (LkL LkI) LkCert)))))))
def dMsg : Dt MsgD := dM (dP dI (dP dI (dP dI (dP dI (dP dI (dP dI (dP dI (dP dResult (dP (dL dSigned) (dP dCert (dP (dL dChange) (dP (dL dEntry) (dP dY (dP dS (dP dI (dP dProof dSign)))))))))))))))) (fun s : MsgD => (s.kind, s.src, s.view, s.seq, s.digest, s.client, s.time, s.result, s.batch, s.cert, s.changes, s.entries, s.state, s.topic, s.offset, s.proof, s.sign))
def cMsg (s : MsgD) : List D := [.int .i64 s.kind, .int .i64 s.src, .int .i64 s.view, .int .i64 s.seq, .int .i64 s.digest, .int .i64 s.client, .int .i64 s.time, .int .i64 s.result.err, .int .i64 s.result.offset, .list 9 (s.batch.map cSigned), .int .i64 s.cert.seq, .int .i64 s.cert.digest, .list 2 (s.cert.signs.map cSign), .list 8 (s.changes.map cChange), .list 5 (s.entries.map cEntry), .list 1 (s.state.map cByte), .str s.topic, .int .i64 s.offset, .str s.proof.topic, .int .i64 s.proof.offset, .list 1 (s.proof.record.map cByte), .list 5 (s.proof.headers.map cHeader), .int .i64 s.proof.index, .int .i64 s.proof.count, .list 1 (s.proof.path.map cNum), .int .i64 s.proof.cert.seq, .int .i64 s.proof.cert.digest, .list 2 (s.proof.cert.signs.map cSign), .int .i64 s.sign.key, .int .i64 s.sign.digest]
set_option maxRecDepth 10000 in
theorem dMsg_c : dMsg.c = cMsg := rfl
set_option maxRecDepth 10000 in
theorem LkMsg : Lk tMsg dMsg := LkM _ (LkP LkI (LkP LkI (LkP LkI (LkP LkI (LkP LkI (LkP LkI (LkP LkI (LkP LkResult (LkP (LkL LkSigned) (LkP LkCert (LkP (LkL LkChange) (LkP (LkL LkEntry) (LkP LkY (LkP LkS (LkP LkI (LkP LkProof LkSign))))))))))))))))
def dSetup : Dt SetupD := dM (dP dI (dP dW (dP dW (dP dI dS)))) (fun s : SetupD => (s.f, s.faulty, s.liars, s.room, s.topic))
def cSetup (s : SetupD) : List D := [.int .i64 s.f, .int .u16 s.faulty, .int .u16 s.liars, .int .i64 s.room, .str s.topic]
set_option maxRecDepth 10000 in
theorem dSetup_c : dSetup.c = cSetup := rfl
set_option maxRecDepth 10000 in
theorem LkSetup : Lk tSetup dSetup := LkM _ (LkP LkI (LkP LkW (LkP LkW (LkP LkI LkS))))
def dAct : Dt ActD := dM (dP dI (dP dI (dP dI (dP dOp (dP dY (dP dMsg dB)))))) (fun s : ActD => (s.kind, s.who, s.num, s.op, s.bytes, s.msg, s.sealed))
def cAct (s : ActD) : List D := [.int .i64 s.kind, .int .i64 s.who, .int .i64 s.num, .int .i64 s.op.kind, .str s.op.topic, .str s.op.group, .int .i64 s.op.offset, .list 1 (s.op.records.map cRec), .list 1 (s.bytes.map cByte), .int .i64 s.msg.kind, .int .i64 s.msg.src, .int .i64 s.msg.view, .int .i64 s.msg.seq, .int .i64 s.msg.digest, .int .i64 s.msg.client, .int .i64 s.msg.time, .int .i64 s.msg.result.err, .int .i64 s.msg.result.offset, .list 9 (s.msg.batch.map cSigned), .int .i64 s.msg.cert.seq, .int .i64 s.msg.cert.digest, .list 2 (s.msg.cert.signs.map cSign), .list 8 (s.msg.changes.map cChange), .list 5 (s.msg.entries.map cEntry), .list 1 (s.msg.state.map cByte), .str s.msg.topic, .int .i64 s.msg.offset, .str s.msg.proof.topic, .int .i64 s.msg.proof.offset, .list 1 (s.msg.proof.record.map cByte), .list 5 (s.msg.proof.headers.map cHeader), .int .i64 s.msg.proof.index, .int .i64 s.msg.proof.count, .list 1 (s.msg.proof.path.map cNum), .int .i64 s.msg.proof.cert.seq, .int .i64 s.msg.proof.cert.digest, .list 2 (s.msg.proof.cert.signs.map cSign), .int .i64 s.msg.sign.key, .int .i64 s.msg.sign.digest, .bool s.sealed]
set_option maxRecDepth 10000 in
theorem dAct_c : dAct.c = cAct := rfl
set_option maxRecDepth 10000 in
theorem LkAct : Lk tAct dAct := LkM _ (LkP LkI (LkP LkI (LkP LkI (LkP LkOp (LkP LkY (LkP LkMsg LkB))))))
def dScript : Dt ScriptD := dM (dP dSetup (dL dAct)) (fun s : ScriptD => (s.setup, s.acts))
def cScript (s : ScriptD) : List D := [.int .i64 s.setup.f, .int .u16 s.setup.faulty, .int .u16 s.setup.liars, .int .i64 s.setup.room, .str s.setup.topic, .list 40 (s.acts.map cAct)]
set_option maxRecDepth 10000 in
theorem dScript_c : dScript.c = cScript := rfl
set_option maxRecDepth 10000 in
theorem LkScript : Lk tScript dScript := LkM _ (LkP LkSetup (LkL LkAct))
def dVote : Dt VoteD := dM (dP dI (dP dI dSign)) (fun s : VoteD => (s.seq, s.digest, s.sign))
def cVote (s : VoteD) : List D := [.int .i64 s.seq, .int .i64 s.digest, .int .i64 s.sign.key, .int .i64 s.sign.digest]
set_option maxRecDepth 10000 in
theorem dVote_c : dVote.c = cVote := rfl
set_option maxRecDepth 10000 in
theorem LkVote : Lk tVote dVote := LkM _ (LkP LkI (LkP LkI LkSign))
def dPlaced : Dt PlacedD := dM (dP dS (dP dI dY)) (fun s : PlacedD => (s.topic, s.offset, s.record))
def cPlaced (s : PlacedD) : List D := [.str s.topic, .int .i64 s.offset, .list 1 (s.record.map cByte)]
set_option maxRecDepth 10000 in
theorem dPlaced_c : dPlaced.c = cPlaced := rfl
set_option maxRecDepth 10000 in
theorem LkPlaced : Lk tPlaced dPlaced := LkM _ (LkP LkS (LkP LkI LkY))
def dVoteOf : Dt VoteOfD := dM (dP dI dSign) (fun s : VoteOfD => (s.digest, s.sign))
def cVoteOf (s : VoteOfD) : List D := [.int .i64 s.digest, .int .i64 s.sign.key, .int .i64 s.sign.digest]
set_option maxRecDepth 10000 in
theorem dVoteOf_c : dVoteOf.c = cVoteOf := rfl
set_option maxRecDepth 10000 in
theorem LkVoteOf : Lk tVoteOf dVoteOf := LkM _ (LkP LkI LkSign)
def dSlot : Dt SlotD := dM (dP dI (dP dB (dP dI (dP dSign (dP (dL dSigned) (dP (dL dVoteOf) (dL dVoteOf))))))) (fun s : SlotD => (s.seq, s.has, s.digest, s.firstS, s.batch, s.prepares, s.commits))
def cSlot (s : SlotD) : List D := [.int .i64 s.seq, .bool s.has, .int .i64 s.digest, .int .i64 s.firstS.key, .int .i64 s.firstS.digest, .list 9 (s.batch.map cSigned), .list 3 (s.prepares.map cVoteOf), .list 3 (s.commits.map cVoteOf)]
set_option maxRecDepth 10000 in
theorem dSlot_c : dSlot.c = cSlot := rfl
set_option maxRecDepth 10000 in
theorem LkSlot : Lk tSlot dSlot := LkM _ (LkP LkI (LkP LkB (LkP LkI (LkP LkSign (LkP (LkL LkSigned) (LkP (LkL LkVoteOf) (LkL LkVoteOf)))))))
def dPoints : Dt PointsD := dM (dP dCert (dP (dL dVote) (dL dCert))) (fun s : PointsD => (s.stable, s.votes, s.certs))
def cPoints (s : PointsD) : List D := [.int .i64 s.stable.seq, .int .i64 s.stable.digest, .list 2 (s.stable.signs.map cSign), .list 4 (s.votes.map cVote), .list 3 (s.certs.map cCert)]
set_option maxRecDepth 10000 in
theorem dPoints_c : dPoints.c = cPoints := rfl
set_option maxRecDepth 10000 in
theorem LkPoints : Lk tPoints dPoints := LkM _ (LkP LkCert (LkP (LkL LkVote) (LkL LkCert)))
def dPool : Dt PoolD := dM (dL dSigned) (fun s : PoolD => s.waiting)
def cPool (s : PoolD) : List D := [.list 9 (s.waiting.map cSigned)]
set_option maxRecDepth 10000 in
theorem dPool_c : dPool.c = cPool := rfl
set_option maxRecDepth 10000 in
theorem LkPool : Lk tPool dPool := LkM _ (LkL LkSigned)
def dTimer : Dt TimerD := dM (dP dI dI) (fun s : TimerD => (s.length, s.left))
def cTimer (s : TimerD) : List D := [.int .i64 s.length, .int .i64 s.left]
set_option maxRecDepth 10000 in
theorem dTimer_c : dTimer.c = cTimer := rfl
set_option maxRecDepth 10000 in
theorem LkTimer : Lk tTimer dTimer := LkM _ (LkP LkI LkI)
def dBlock : Dt BlockD := dM (dP dHeader (dP (dL dSigned) (dL dPlaced))) (fun s : BlockD => (s.header, s.batch, s.placed))
def cBlock (s : BlockD) : List D := [.int .i64 s.header.seq, .int .i64 s.header.prev, .int .i64 s.header.batch, .int .i64 s.header.root, .int .i64 s.header.state, .list 9 (s.batch.map cSigned), .list 3 (s.placed.map cPlaced)]
set_option maxRecDepth 10000 in
theorem dBlock_c : dBlock.c = cBlock := rfl
set_option maxRecDepth 10000 in
theorem LkBlock : Lk tBlock dBlock := LkM _ (LkP LkHeader (LkP (LkL LkSigned) (LkL LkPlaced)))
def dMark : Dt MarkD := dM (dP dHeader dY) (fun s : MarkD => (s.header, s.topics))
def cMark (s : MarkD) : List D := [.int .i64 s.header.seq, .int .i64 s.header.prev, .int .i64 s.header.batch, .int .i64 s.header.root, .int .i64 s.header.state, .list 1 (s.topics.map cByte)]
set_option maxRecDepth 10000 in
theorem dMark_c : dMark.c = cMark := rfl
set_option maxRecDepth 10000 in
theorem LkMark : Lk tMark dMark := LkM _ (LkP LkHeader LkY)
def dCore : Dt CoreD := dM (dP dI (dP dB (dP dI (dP dI (dP dHeader (dP (dL dBlock) (dP dY (dP dPoints (dP (dL dCert) (dP (dL dMark) (dP (dL dSlot) (dP (dL dPrepared) (dP (dL dChange) (dP dPool (dP dTimer (dP (dL dMsg) dI)))))))))))))))) (fun s : CoreD => (s.view, s.active, s.ticks, s.floor, s.base, s.blocks, s.topics, s.points, s.certs, s.marks, s.slots, s.held, s.changes, s.pool, s.timer, s.news, s.wants))
def cCore (s : CoreD) : List D := [.int .i64 s.view, .bool s.active, .int .i64 s.ticks, .int .i64 s.floor, .int .i64 s.base.seq, .int .i64 s.base.prev, .int .i64 s.base.batch, .int .i64 s.base.root, .int .i64 s.base.state, .list 7 (s.blocks.map cBlock), .list 1 (s.topics.map cByte), .int .i64 s.points.stable.seq, .int .i64 s.points.stable.digest, .list 2 (s.points.stable.signs.map cSign), .list 4 (s.points.votes.map cVote), .list 3 (s.points.certs.map cCert), .list 3 (s.certs.map cCert), .list 6 (s.marks.map cMark), .list 8 (s.slots.map cSlot), .list 7 (s.held.map cPrepared), .list 8 (s.changes.map cChange), .list 9 (s.pool.waiting.map cSigned), .int .i64 s.timer.length, .int .i64 s.timer.left, .list 30 (s.news.map cMsg), .int .i64 s.wants]
set_option maxRecDepth 10000 in
theorem dCore_c : dCore.c = cCore := rfl
set_option maxRecDepth 10000 in
theorem LkCore : Lk tCore dCore := LkM _ (LkP LkI (LkP LkB (LkP LkI (LkP LkI (LkP LkHeader (LkP (LkL LkBlock) (LkP LkY (LkP LkPoints (LkP (LkL LkCert) (LkP (LkL LkMark) (LkP (LkL LkSlot) (LkP (LkL LkPrepared) (LkP (LkL LkChange) (LkP LkPool (LkP LkTimer (LkP (LkL LkMsg) LkI))))))))))))))))
end Go.Proofs.YtbbcepmhkocgbaaGreatDoor

/- Walks computed: the steps of a proof, one for each form of the tree. No program here. -/
namespace Go.Proofs.YtbbcepmhkocgbaaGreatDoor
open Go.RowKit
set_option linter.unusedVariables false

/-- what a function computes: its answer, of data alone -/
abbrev FnP (P : Program) (f : FuncId) (ar : List D) (r : D) : Prop := FnS P f ar [] (fun r' h' => r' = r ∧ h' = [])
theorem ren_pure (σ : List Nat) : ∀ (d : D), pureD d = true → d.ren σ = d
  | .agg cs, h => by simp only [D.ren]; rw [go cs h]
  | .tup cs, h => by simp only [D.ren]; rw [go cs h]
  | .fn f cs, h => by simp only [D.ren]; rw [go cs h]
  | .bool _, _ | .int _ _, _ | .str _, _ | .list _ _, _ | .nils, _ | .nilp, _ | .nilf, _ | .nilm, _ | .ref _, _ => rfl
  | .ptr _ _, h | .row _, h | .rowp _ _ _, h | .any, h | .bad, h => by cases h
where go : ∀ (cs : List D), pureD.pl cs = true → D.ren.rl σ cs = cs
  | [], _ => rfl
  | d :: ds, h => by
    simp only [pureD.pl, Bool.and_eq_true] at h
    rw [D.ren.rl, ren_pure σ d h.1, go ds h.2]
theorem frzD_nil (h : List AO) : ∀ d : D, d.frz h [] = d
  | .agg cs => by simp only [D.frz]; rw [go cs]
  | .tup cs => by simp only [D.frz]; rw [go cs]
  | .row o => rfl
  | .fn _ _ => rfl
  | .bool _ | .int _ _ | .str _ | .list _ _ | .nils | .nilp | .nilf | .nilm | .ref _ | .ptr _ _ | .rowp _ _ _ | .any | .bad => rfl
where go : ∀ cs : List D, D.frz.fl h [] cs = cs
  | [] => rfl
  | d :: ds => by rw [D.frz.fl, frzD_nil h d, go ds]
theorem frH_nil (h : List AO) : ∀ (l : List AO) (k : Nat), frH h [] k l = l
  | [], k => rfl
  | a :: l, k => by
    rw [frH, frH_nil h l]
    cases a with
    | cells t cs => simp only [AO.frz, frzD_nil.go]; rfl
    | row t n xs => rfl
    | gone => rfl
theorem frz_nil (s : S) : s.frz [] = s := by
  cases s with
  | mk t h =>
    simp only [S.frz, frH_nil]
    congr 1
    rw [show (fun x : Nat × D => (x.1, x.2.frz h [])) = id from funext fun x => by rw [frzD_nil]; rfl]
    simp
section
variable {P : Program} {Q : Exit → S → Prop}
theorem okBr {b : Bool} {t f : T} (h1 : b = true → t.ok P Q) (h2 : b = false → f.ok P Q) : (T.br b t f).ok P Q := ⟨h1, h2⟩
theorem okBrT {t f : T} (h : t.ok P Q) : (T.br true t f).ok P Q := ⟨fun _ => h, fun e => (by cases e)⟩
theorem okBrF {t f : T} (h : f.ok P Q) : (T.br false t f).ok P Q := ⟨fun e => (by cases e), fun _ => h⟩
theorem okAsk {p : Prop} {t : T} (h : p) (k : t.ok P Q) : (T.ask p t).ok P Q := ⟨h, k⟩
theorem okWrap {k : IntKind} {e : Int} {c : Int → T} (hw : k.wrap e = e) (h : (c e).ok P Q) : (T.wrap k e c).ok P Q := by
  show (c (k.wrap e)).ok P Q
  rw [hw]; exact h
theorem okRaw {k : IntKind} {e : Int} {c : Int → T} (h : (c (k.wrap e)).ok P Q) : (T.wrap k e c).ok P Q := h
theorem okNth {xs : List (List D)} {i : Int} {c : List D → T} (x : List D) (h0 : 0 ≤ i) (h1 : xs[i.toNat]? = some x) (h : (c x).ok P Q) : (T.nth xs i c).ok P Q := ⟨x, h0, h1, h⟩
theorem okNthMap {α : Type} {l : List α} {f : α → List D} {q : Nat} {c : List D → T} (hq : q < l.length) (h : ∀ x, l[q]? = some x → (c (f x)).ok P Q) : (T.nth (l.map f) (q : Int) c).ok P Q :=
  ⟨f l[q], Int.natCast_nonneg q, by simp [hq], h _ (List.getElem?_eq_getElem hq)⟩
theorem okByte {s : List UInt8} {i : Int} {c : UInt8 → T} (x : UInt8) (h0 : 0 ≤ i) (h1 : s[i.toNat]? = some x) (h : (c x).ok P Q) : (T.byte s i c).ok P Q := ⟨x, h0, h1, h⟩
theorem okByts {xs : List (List D)} {c : List UInt8 → T} (s : List UInt8) (h1 : xs = s.map cByte) (h : (c s).ok P Q) : (T.byts xs c).ok P Q := ⟨s, h1, h⟩
/-- a call of what only computes -/
theorem okFn {f : FuncId} {ar ar' : List D} {h : List AO} {c : D → List AO → T} {r : D} (hF : FnP P f ar r) (hp : pureD.pl ar = true) (hc : Cos ar' ar) (k : (c r h).ok P Q) : (T.call f ar' h c).ok P Q :=
  ⟨_, hF.pure (R := fun r' => r' = r) hp hc, fun r' h' ⟨e1, e2⟩ => by subst e1 e2; exact k⟩
/-- a call beside objects -/
theorem okCall {f : FuncId} {ar ar' : List D} {hs hb : List AO} {c : D → List AO → T} {r : D} {hs' : List AO} (σ : List Nat) (hF : FnS P f ar hs (fun r' h' => r' = r ∧ h' = hs')) (V : View σ hb hs) (hc : Cos ar' (D.ren.rl σ ar)) (hM : (σ.all fun o => (foot hb ar').elem o) = true) (k : (c (r.ren (upS hb σ hs hs')) (upH hb σ hs hs')).ok P Q) : (T.call f ar' hb c).ok P Q :=
  ⟨_, hF.big V hc (fun o ho => by have := List.all_eq_true.1 hM o ho; simpa using this), fun r' h' ⟨r0, h0, ⟨e1, e2⟩, e3, e4⟩ => by subst e1 e2 e3 e4; exact k⟩
theorem okLeaf {e : Exit} {s : S} (h : Q e s) : (T.leaf e s).ok P Q := h
/-- the end of what only computes -/
theorem endFn {tb : TT} {rs : List ResultVar} {e : Exit} {s : S} {r : D} (fz : List Nat) {ds : List D} (he : e = .normal ∨ e = .ret) (hr : resD tb (s.frz fz) rs = some ds) (hco : Co (resV ds) r) (hp : pureD r = true) : (T.leaf e s).ok P (Lf tb rs [] (fun r' h' => r' = r ∧ h' = [])) :=
  ⟨he, fz, ds, hr, [], r, r, [], ⟨rfl, fun i j o h => by simp at h, fun i o a h => by simp at h⟩, hco, (ren_pure [] r hp).symm, fun o t cs h => by simp at h, rfl, rfl⟩
theorem endFn0 {tb : TT} {rs : List ResultVar} {e : Exit} {s : S} {r : D} {ds : List D} (he : e = .normal ∨ e = .ret) (hr : resD tb s rs = some ds) (hco : Co (resV ds) r) (hp : pureD r = true) : (T.leaf e s).ok P (Lf tb rs [] (fun r' h' => r' = r ∧ h' = [])) :=
  endFn [] he (by rw [frz_nil]; exact hr) hco hp
theorem endInt {tb : TT} {rs : List ResultVar} {e : Exit} {s : S} {k : IntKind} {n m : Int} (he : e = .normal ∨ e = .ret) (hr : resD tb s rs = some [.int k n]) (h : n = m) : (T.leaf e s).ok P (Lf tb rs [] (fun r' h' => r' = .int k m ∧ h' = [])) := by
  subst h
  exact endFn0 he hr (.refl _) rfl
theorem endBool {tb : TT} {rs : List ResultVar} {e : Exit} {s : S} {n m : Bool} (he : e = .normal ∨ e = .ret) (hr : resD tb s rs = some [.bool n]) (h : n = m) : (T.leaf e s).ok P (Lf tb rs [] (fun r' h' => r' = .bool m ∧ h' = [])) := by
  subst h
  exact endFn0 he hr (.refl _) rfl
end
/-! views, told one by one -/
def nodupB : List Nat → Bool
  | [] => true
  | o :: r => !r.elem o && nodupB r
def vwP (h : List AO) (σ : List Nat) : List Nat → List AO → Prop
  | [], [] => True
  | o :: r, a :: l => (Nat.blt o h.length = true ∧ lh h o = a.ren σ) ∧ vwP h σ r l
  | _, _ => False
theorem nodupB_ok : ∀ {l : List Nat}, nodupB l = true → ∀ (i j o : Nat), l[i]? = some o → l[j]? = some o → i = j
  | [], _, i, j, o, h, _ => by simp at h
  | x :: r, h, i, j, o, h1, h2 => by
    simp only [nodupB, Bool.and_eq_true, Bool.not_eq_true'] at h
    have hx : x ∉ r := by
      intro hm
      have : r.elem x = true := by simpa using hm
      rw [this] at h
      cases h.1
    cases i with
    | zero =>
      cases j with
      | zero => rfl
      | succ j =>
        simp at h1 h2
        subst h1
        exact absurd (List.mem_of_getElem? h2) hx
    | succ i =>
      cases j with
      | zero =>
        simp at h1 h2
        subst h2
        exact absurd (List.mem_of_getElem? h1) hx
      | succ j =>
        simp at h1 h2
        rw [nodupB_ok h.2 i j o h1 h2]
theorem lh_of {h : List AO} {o : Nat} {a : AO} (hl : o < h.length) (k : lh h o = a) : h[o]? = some a := by
  have : ∀ (l : List AO) (n : Nat), n < l.length → l[n]? = some (lh l n) := by
    intro l
    induction l with
    | nil => intro n h; simp at h
    | cons b l ih =>
      intro n h
      cases n with
      | zero => simp [lh]
      | succ n => simp at h; simp [lh, ih n h]
  rw [this h o hl, k]
theorem vwP_get {h : List AO} {σ : List Nat} : ∀ {r : List Nat} {l : List AO}, vwP h σ r l → r.length = l.length ∧ ∀ (i o : Nat) a, r[i]? = some o → l[i]? = some a → h[o]? = some (a.ren σ)
  | [], [], _ => ⟨rfl, fun i o a h => by simp at h⟩
  | o :: r, a :: l, k => by
    obtain ⟨⟨k1, k2⟩, k3⟩ := k
    obtain ⟨e1, e2⟩ := vwP_get k3
    refine ⟨by simp [e1], fun i o' a' h1 h2 => ?_⟩
    cases i with
    | zero => simp at h1 h2; subst h1 h2; exact lh_of (Nat.le_of_ble_eq_true k1) k2
    | succ i => simp at h1 h2; exact e2 i o' a' h1 h2
  | [], _ :: _, k => k.elim
  | _ :: _, [], k => k.elim
theorem View.mk' {σ : List Nat} {h h' : List AO} (hn : nodupB σ = true) (hv : vwP h σ σ h') : View σ h h' :=
  ⟨(vwP_get hv).1, nodupB_ok hn, (vwP_get hv).2⟩
def svT (t : List (Nat × D)) (σ : List Nat) : List (Nat × D) → Prop
  | [] => True
  | (j, d) :: r => lk t j = d.ren σ ∧ svT t σ r
theorem svT_ok {t : List (Nat × D)} {σ : List Nat} : ∀ {l : List (Nat × D)}, svT t σ l → ∀ j, lk l j = .any ∨ lk t j = (lk l j).ren σ
  | [], _, j => .inl rfl
  | (i, d) :: r, k, j => by
    simp only [lk]
    cases hb : Nat.beq j i with
    | true =>
      cases Nat.eq_of_beq_eq_true hb
      exact .inr k.1
    | false => exact svT_ok k.2 j
def idB : Nat → List Nat → Bool
  | 0, _ => true
  | n + 1, σ => (match ln σ n with | some o => Nat.beq o n | none => false) && idB n σ
theorem idB_ok {σ : List Nat} : ∀ {m : Nat}, idB m σ = true → ∀ i, i < m → σ[i]? = some i
  | 0, _, i, h => by omega
  | n + 1, h, i, hi => by
    simp only [idB, Bool.and_eq_true] at h
    by_cases e : i = n
    · subst e
      rw [← ln_get]
      cases hl : ln σ i with
      | none => rw [hl] at h; cases h.1
      | some o => rw [hl] at h; rw [Nat.eq_of_beq_eq_true h.1]
    · exact idB_ok h.2 i (by omega)
theorem Sv.mk' {m : Nat} {s s' : S} (σ : List Nat) (h1 : (nodupB σ && idB m σ) = true) (h2 : vwP s.h σ σ s'.h) (h3 : svT s.t σ s'.t) : Sv m s s' := by
  rw [Bool.and_eq_true] at h1
  exact ⟨σ, .mk' h1.1 h2, idB_ok h1.2, svT_ok h3⟩
theorem okLoop {P : Program} {Q : Exit → S → Prop} {α : Type} {m : Nat} {s : S} {body : S → T} {c : Exit → S → T} (st : α → S) (J : α → Prop) (μ : α → Nat) (a0 : α) (h0 : J a0) (hv : Sv m s (st a0))
    (hb : ∀ a, J a → (body (st a)).ok P fun e s' => match e with
      | .normal => ∃ a', Sv m s' (st a') ∧ J a' ∧ μ a' < μ a
      | e => (c e s').ok P Q) : (T.loop m s body c).ok P Q := by
  classical
  have hex : ∀ s, (∃ a, s = st a ∧ J a) → ∃ n, ∃ a, s = st a ∧ J a ∧ μ a = n := fun s ⟨a, h1, h2⟩ => ⟨_, a, h1, h2, rfl⟩
  let μ' : S → Nat := fun s => if hh : ∃ a, s = st a ∧ J a then Classical.choose (least (hex s hh)) else 0
  have hsp : ∀ s (hh : ∃ a, s = st a ∧ J a), μ' s = Classical.choose (least (hex s hh)) := fun s hh => by simp only [μ', dif_pos hh]
  have hle : ∀ a, J a → μ' (st a) ≤ μ a := fun a h2 => by
    have hh : ∃ b, st a = st b ∧ J b := ⟨a, rfl, h2⟩
    rw [hsp _ hh]
    exact (Classical.choose_spec (least (hex _ hh))).2 _ ⟨a, rfl, h2, rfl⟩
  have hat : ∀ s, (∃ a, s = st a ∧ J a) → ∃ a, s = st a ∧ J a ∧ μ a = μ' s := fun s hh => by
    rw [hsp s hh]
    exact (Classical.choose_spec (least (hex s hh))).1
  refine ⟨fun s => ∃ a, s = st a ∧ J a, μ', ⟨st a0, hv, a0, rfl, h0⟩, fun s0 hs => ?_⟩
  obtain ⟨a, rfl, hJ, hμ⟩ := hat s0 hs
  refine T.ok_mono (fun e s' he => ?_) (hb a hJ)
  cases e with
  | normal =>
    obtain ⟨a', k1, k2, k3⟩ := he
    exact ⟨st a', k1, ⟨a', rfl, k2⟩, by have := hle a' k2; omega⟩
  | _ => exact he
theorem okAgain {P : Program} {Q : Exit → S → Prop} {α : Type} {m n : Nat} {s' : S} {c : Exit → S → T} {st : α → S} {J : α → Prop} {μ : α → Nat} (a' : α) (hv : Sv m s' (st a')) (hJ : J a') (hμ : μ a' < n) : (T.leaf .normal s').ok P (fun e s' => match e with
      | .normal => ∃ a', Sv m s' (st a') ∧ J a' ∧ μ a' < n
      | e => (c e s').ok P Q) := ⟨a', hv, hJ, hμ⟩
theorem okOut {P : Program} {Q : Exit → S → Prop} {α : Type} {m n : Nat} {s' : S} {c : Exit → S → T} {st : α → S} {J : α → Prop} {μ : α → Nat} {id : Nat} (h : (c (.exit id) s').ok P Q) : (T.leaf (.exit id) s').ok P (fun e s' => match e with
      | .normal => ∃ a', Sv m s' (st a') ∧ J a' ∧ μ a' < n
      | e => (c e s').ok P Q) := h
theorem okRet {P : Program} {Q : Exit → S → Prop} {α : Type} {m n : Nat} {s' : S} {c : Exit → S → T} {st : α → S} {J : α → Prop} {μ : α → Nat} (h : (c .ret s').ok P Q) : (T.leaf .ret s').ok P (fun e s' => match e with
      | .normal => ∃ a', Sv m s' (st a') ∧ J a' ∧ μ a' < n
      | e => (c e s').ok P Q) := h
/-- the objects that came in keep their names -/
def keepP : Nat → List AO → List Nat → List AO → Prop
  | _, [], _, _ => True
  | i, .cells _ _ :: r, σ, h' => (ln σ i = some i ∧ isC (lh h' i) = true) ∧ keepP (i + 1) r σ h'
  | i, _ :: r, σ, h' => keepP (i + 1) r σ h'
theorem keepP_ok {σ : List Nat} {h' : List AO} : ∀ {h : List AO} {k : Nat}, keepP k h σ h' → ∀ (o : Nat) t cs, h[o]? = some (.cells t cs) → σ[k + o]? = some (k + o) ∧ ∃ t' cs', h'[k + o]? = some (.cells t' cs')
  | [], k, _, o, t, cs, h1 => by simp at h1
  | a :: r, k, hk, o, t, cs, h1 => by
    have hr : keepP (k + 1) r σ h' := by cases a <;> first | exact hk.2 | exact hk
    cases o with
    | zero =>
      simp at h1
      subst h1
      obtain ⟨⟨k1, k2⟩, _⟩ := hk
      rw [ln_get] at k1
      exact ⟨k1, isC_lh k2⟩
    | succ o =>
      simp at h1
      have := keepP_ok hr o t cs h1
      rw [show k + (o + 1) = k + 1 + o from by omega]
      exact this
section
variable {P : Program}
/-- the end of what changes objects -/
theorem endObj {tb : TT} {rs : List ResultVar} {e : Exit} {s : S} {h : List AO} {r : D} {h' : List AO} {ds : List D} (σ : List Nat) (he : e = .normal ∨ e = .ret) (hr : resD tb s rs = some ds) (hn : nodupB σ = true) (hv : vwP s.h σ σ h') (hk : keepP 0 h σ h') (hco : Co (resV ds) (r.ren σ)) :
    (T.leaf e s).ok P (Lf tb rs h (fun r' h'' => r' = r ∧ h'' = h')) :=
  ⟨he, [], ds, by rw [frz_nil]; exact hr, σ, r, _, h', by rw [frz_nil]; exact .mk' hn hv, hco, rfl, fun o t cs h1 => by have := keepP_ok hk o t cs h1; simpa using this, rfl, rfl⟩
/-- as 'endObj', the rows fz held for data -/
theorem endObjF {tb : TT} {rs : List ResultVar} {e : Exit} {s : S} {h : List AO} {r : D} {h' : List AO} {ds : List D} (fz σ : List Nat) (he : e = .normal ∨ e = .ret) (hr : resD tb (s.frz fz) rs = some ds) (hn : nodupB σ = true) (hv : vwP (s.frz fz).h σ σ h') (hk : keepP 0 h σ h') (hco : Co (resV ds) (r.ren σ)) :
    (T.leaf e s).ok P (Lf tb rs h (fun r' h'' => r' = r ∧ h'' = h')) :=
  ⟨he, fz, ds, hr, σ, r, _, h', .mk' hn hv, hco, rfl, fun o t cs h1 => by have := keepP_ok hk o t cs h1; simpa using this, rfl, rfl⟩
end
theorem Co.of_eq {d e : D} (h : d = e) : Co d e := by subst h; exact .refl _
end Go.Proofs.YtbbcepmhkocgbaaGreatDoor

/- The program's types, as far as a walk asks: a search tree. -/
namespace Go.Proofs.YtbbcepmhkocgbaaGreatDoor
def tyTab : TT := (.node (.node (.node (.node (.node (.node (.node (.node .nil 1 ⟨1, 8, [.nilf], .other⟩ .nil) 2 ⟨1, 8, [.int .i64 0], .int .i64⟩ (.node .nil 3 ⟨1, 8, [.int .i64 0], .int .i64⟩ .nil)) 4 ⟨1, 1, [.bool false], .bool⟩ (.node (.node .nil 5 ⟨1, 1, [.int .u8 0], .int .u8⟩ .nil) 6 ⟨1, 1, [.int .u8 0], .int .u8⟩ .nil)) 7 ⟨4, 24, [.int .i64 0, .int .i64 0, .bool false, .int .u8 0], .struct [(0, 2), (1, 3), (2, 4), (3, 6)]⟩ (.node (.node (.node .nil 8 ⟨4, 24, [.int .i64 0, .int .i64 0, .bool false, .int .u8 0], .struct [(0, 2), (1, 3), (2, 4), (3, 6)]⟩ .nil) 9 ⟨1, 16, [.str []], .str⟩ (.node .nil 10 ⟨1, 16, [.str []], .str⟩ .nil)) 11 ⟨1, 16, [.str []], .str⟩ (.node (.node .nil 12 ⟨1, 8, [.int .u64 0], .int .u64⟩ .nil) 15 ⟨1, 8, [.nilp], .ptr⟩ .nil))) 16 ⟨1, 8, [.nilp], .ptr⟩ (.node (.node (.node (.node .nil 17 ⟨1, 8, [.nilp], .ptr⟩ .nil) 21 ⟨1, 4, [.int .i32 0], .int .i32⟩ (.node .nil 22 ⟨1, 2, [.int .u16 0], .int .u16⟩ .nil)) 23 ⟨1, 2, [.int .u16 0], .int .u16⟩ (.node (.node .nil 24 ⟨5, 40, [.int .i64 0, .int .u16 0, .int .u16 0, .int .i64 0, .str []], .struct [(0, 3), (1, 23), (2, 23), (3, 3), (4, 9)]⟩ .nil) 25 ⟨5, 40, [.int .i64 0, .int .u16 0, .int .u16 0, .int .i64 0, .str []], .struct [(0, 3), (1, 23), (2, 23), (3, 3), (4, 9)]⟩ .nil)) 26 ⟨1, 24, [.nils], .slice 58⟩ (.node (.node (.node .nil 27 ⟨6, 64, [.int .i64 0, .int .u16 0, .int .u16 0, .int .i64 0, .str [], .nils], .struct [(0, 25), (5, 26)]⟩ .nil) 28 ⟨6, 64, [.int .i64 0, .int .u16 0, .int .u16 0, .int .i64 0, .str [], .nils], .struct [(0, 25), (5, 26)]⟩ .nil) 29 ⟨1, 8, [.nilf], .other⟩ (.node (.node .nil 30 ⟨1, 8, [.int .i64 0], .int .i64⟩ .nil) 32 ⟨1, 8, [.nilf], .other⟩ .nil)))) 33 ⟨1, 8, [.nilf], .other⟩ (.node (.node (.node (.node (.node .nil 34 ⟨1, 24, [.nils], .slice 48⟩ .nil) 35 ⟨5, 72, [.int .i64 0, .str [], .str [], .int .i64 0, .nils], .struct [(0, 3), (1, 9), (2, 9), (3, 2), (4, 34)]⟩ (.node .nil 36 ⟨5, 72, [.int .i64 0, .str [], .str [], .int .i64 0, .nils], .struct [(0, 3), (1, 9), (2, 9), (3, 2), (4, 34)]⟩ .nil)) 37 ⟨1, 24, [.nils], .slice 5⟩ (.node (.node .nil 38 ⟨1, 8, [.int .i64 0], .int .i64⟩ .nil) 39 ⟨2, 16, [.int .i64 0, .int .i64 0], .struct [(0, 30), (1, 2)]⟩ .nil)) 40 ⟨2, 16, [.int .i64 0, .int .i64 0], .struct [(0, 30), (1, 2)]⟩ (.node (.node (.node .nil 41 ⟨1, 24, [.nils], .slice 105⟩ .nil) 42 ⟨1, 24, [.nils], .slice 105⟩ .nil) 43 ⟨1, 24, [.nils], .slice 54⟩ (.node (.node .nil 44 ⟨3, 40, [.int .i64 0, .int .i64 0, .nils], .struct [(0, 2), (1, 38), (2, 43)]⟩ .nil) 45 ⟨3, 40, [.int .i64 0, .int .i64 0, .nils], .struct [(0, 2), (1, 38), (2, 43)]⟩ .nil))) 46 ⟨1, 24, [.nils], .slice 90⟩ (.node (.node (.node (.node .nil 47 ⟨1, 24, [.nils], .slice 109⟩ .nil) 48 ⟨1, 24, [.nils], .slice 5⟩ (.node .nil 49 ⟨1, 24, [.nils], .slice 111⟩ .nil)) 50 ⟨1, 24, [.nils], .slice 38⟩ (.node (.node .nil 51 ⟨10, 152, [.str [], .int .i64 0, .nils, .nils, .int .i64 0, .int .i64 0, .nils, .int .i64 0, .int .i64 0, .nils], .struct [(0, 9), (1, 2), (2, 48), (3, 49), (4, 3), (5, 3), (6, 50), (7, 45)]⟩ .nil) 52 ⟨10, 152, [.str [], .int .i64 0, .nils, .nils, .int .i64 0, .int .i64 0, .nils, .int .i64 0, .int .i64 0, .nils], .struct [(0, 9), (1, 2), (2, 48), (3, 49), (4, 3), (5, 3), (6, 50), (7, 45)]⟩ .nil)) 53 ⟨2, 16, [.int .i64 0, .int .i64 0], .struct [(0, 3), (1, 38)]⟩ (.node (.node (.node .nil 54 ⟨2, 16, [.int .i64 0, .int .i64 0], .struct [(0, 3), (1, 38)]⟩ .nil) 55 ⟨30, 400, [.int .i64 0, .int .i64 0, .int .i64 0, .int .i64 0, .int .i64 0, .int .i64 0, .int .i64 0, .int .i64 0, .int .i64 0, .nils, .int .i64 0, .int .i64 0, .nils, .nils, .nils, .nils, .str [], .int .i64 0, .str [], .int .i64 0, .nils, .nils, .int .i64 0, .int .i64 0, .nils, .int .i64 0, .int .i64 0, .nils, .int .i64 0, .int .i64 0], .struct [(0, 3), (1, 3), (2, 2), (3, 2), (4, 38), (5, 3), (6, 2), (7, 40), (9, 42), (10, 45), (13, 46), (14, 47), (15, 37), (16, 9), (17, 2), (18, 52), (28, 54)]⟩ .nil) 56 ⟨30, 400, [.int .i64 0, .int .i64 0, .int .i64 0, .int .i64 0, .int .i64 0, .int .i64 0, .int .i64 0, .int .i64 0, .int .i64 0, .nils, .int .i64 0, .int .i64 0, .nils, .nils, .nils, .nils, .str [], .int .i64 0, .str [], .int .i64 0, .nils, .nils, .int .i64 0, .int .i64 0, .nils, .int .i64 0, .int .i64 0, .nils, .int .i64 0, .int .i64 0], .struct [(0, 3), (1, 3), (2, 2), (3, 2), (4, 38), (5, 3), (6, 2), (7, 40), (9, 42), (10, 45), (13, 46), (14, 47), (15, 37), (16, 9), (17, 2), (18, 52), (28, 54)]⟩ (.node (.node .nil 57 ⟨40, 528, [.int .i64 0, .int .i64 0, .int .i64 0, .int .i64 0, .str [], .str [], .int .i64 0, .nils, .nils, .int .i64 0, .int .i64 0, .int .i64 0, .int .i64 0, .int .i64 0, .int .i64 0, .int .i64 0, .int .i64 0, .int .i64 0, .nils, .int .i64 0, .int .i64 0, .nils, .nils, .nils, .nils, .str [], .int .i64 0, .str [], .int .i64 0, .nils, .nils, .int .i64 0, .int .i64 0, .nils, .int .i64 0, .int .i64 0, .nils, .int .i64 0, .int .i64 0, .bool false], .struct [(0, 3), (1, 3), (2, 3), (3, 36), (8, 37), (9, 56), (39, 4)]⟩ .nil) 58 ⟨40, 528, [.int .i64 0, .int .i64 0, .int .i64 0, .int .i64 0, .str [], .str [], .int .i64 0, .nils, .nils, .int .i64 0, .int .i64 0, .int .i64 0, .int .i64 0, .int .i64 0, .int .i64 0, .int .i64 0, .int .i64 0, .int .i64 0, .nils, .int .i64 0, .int .i64 0, .nils, .nils, .nils, .nils, .str [], .int .i64 0, .str [], .int .i64 0, .nils, .nils, .int .i64 0, .int .i64 0, .nils, .int .i64 0, .int .i64 0, .nils, .int .i64 0, .int .i64 0, .bool false], .struct [(0, 3), (1, 3), (2, 3), (3, 36), (8, 37), (9, 56), (39, 4)]⟩ .nil))))) 59 ⟨1, 8, [.nilf], .other⟩ (.node (.node (.node (.node (.node (.node .nil 61 ⟨1, 8, [.nilf], .other⟩ .nil) 62 ⟨1, 8, [.nilf], .other⟩ (.node .nil 63 ⟨1, 8, [.nilf], .other⟩ .nil)) 64 ⟨1, 8, [.nilf], .other⟩ (.node (.node .nil 65 ⟨1, 8, [.nilf], .other⟩ .nil) 66 ⟨1, 8, [.nilf], .other⟩ .nil)) 67 ⟨1, 8, [.nilf], .other⟩ (.node (.node (.node .nil 68 ⟨1, 8, [.nilp], .ptr⟩ .nil) 69 ⟨2, 32, [.nilp, .nils], .struct [(0, 68), (1, 37)]⟩ (.node .nil 70 ⟨2, 32, [.nilp, .nils], .struct [(0, 68), (1, 37)]⟩ .nil)) 74 ⟨1, 8, [.nilf], .other⟩ (.node (.node .nil 75 ⟨1, 8, [.nilf], .other⟩ .nil) 76 ⟨1, 24, [.nils], .slice 9⟩ .nil))) 78 ⟨1, 8, [.nilf], .other⟩ (.node (.node (.node (.node .nil 79 ⟨1, 8, [.nilf], .other⟩ .nil) 80 ⟨1, 8, [.nilf], .other⟩ (.node .nil 81 ⟨1, 8, [.int .u64 0], .int .u64⟩ .nil)) 82 ⟨1, 8, [.nilf], .other⟩ (.node (.node .nil 83 ⟨1, 8, [.nilf], .other⟩ .nil) 84 ⟨1, 8, [.nilf], .other⟩ .nil)) 85 ⟨1, 8, [.nilf], .other⟩ (.node (.node (.node .nil 86 ⟨1, 8, [.nilf], .other⟩ .nil) 87 ⟨1, 8, [.nilf], .other⟩ .nil) 88 ⟨1, 24, [.nils], .slice 114⟩ (.node (.node .nil 89 ⟨8, 96, [.int .i64 0, .int .i64 0, .int .i64 0, .int .i64 0, .nils, .nils, .int .i64 0, .int .i64 0], .struct [(0, 2), (1, 3), (2, 45), (5, 88), (6, 54)]⟩ .nil) 90 ⟨8, 96, [.int .i64 0, .int .i64 0, .int .i64 0, .int .i64 0, .nils, .nils, .int .i64 0, .int .i64 0], .struct [(0, 2), (1, 3), (2, 45), (5, 88), (6, 54)]⟩ .nil)))) 91 ⟨1, 8, [.nilf], .other⟩ (.node (.node (.node (.node (.node .nil 92 ⟨1, 8, [.nilf], .other⟩ .nil) 93 ⟨1, 8, [.nilp], .ptr⟩ (.node .nil 94 ⟨1, 8, [.nilf], .other⟩ .nil)) 96 ⟨1, 8, [.nilf], .other⟩ (.node (.node .nil 98 ⟨1, 8, [.nilf], .other⟩ .nil) 100 ⟨1, 8, [.nilf], .other⟩ .nil)) 101 ⟨1, 8, [.nilf], .other⟩ (.node (.node (.node .nil 102 ⟨7, 88, [.int .i64 0, .int .i64 0, .int .i64 0, .str [], .str [], .int .i64 0, .nils], .struct [(0, 3), (1, 2), (2, 36)]⟩ .nil) 103 ⟨7, 88, [.int .i64 0, .int .i64 0, .int .i64 0, .str [], .str [], .int .i64 0, .nils], .struct [(0, 3), (1, 2), (2, 36)]⟩ .nil) 104 ⟨9, 104, [.int .i64 0, .int .i64 0, .int .i64 0, .str [], .str [], .int .i64 0, .nils, .int .i64 0, .int .i64 0], .struct [(0, 103), (7, 54)]⟩ (.node (.node .nil 105 ⟨9, 104, [.int .i64 0, .int .i64 0, .int .i64 0, .str [], .str [], .int .i64 0, .nils, .int .i64 0, .int .i64 0], .struct [(0, 103), (7, 54)]⟩ .nil) 106 ⟨1, 8, [.nilf], .other⟩ .nil))) 107 ⟨1, 8, [.nilf], .other⟩ (.node (.node (.node (.node .nil 108 ⟨5, 56, [.int .i64 0, .int .i64 0, .nils, .int .i64 0, .int .i64 0], .struct [(0, 2), (1, 2), (2, 42), (3, 54)]⟩ .nil) 109 ⟨5, 56, [.int .i64 0, .int .i64 0, .nils, .int .i64 0, .int .i64 0], .struct [(0, 2), (1, 2), (2, 42), (3, 54)]⟩ (.node .nil 110 ⟨5, 40, [.int .i64 0, .int .i64 0, .int .i64 0, .int .i64 0, .int .i64 0], .struct [(0, 2), (1, 38), (2, 38), (3, 38), (4, 38)]⟩ .nil)) 111 ⟨5, 40, [.int .i64 0, .int .i64 0, .int .i64 0, .int .i64 0, .int .i64 0], .struct [(0, 2), (1, 38), (2, 38), (3, 38), (4, 38)]⟩ (.node (.node .nil 112 ⟨1, 8, [.nilf], .other⟩ .nil) 113 ⟨7, 88, [.int .i64 0, .int .i64 0, .int .i64 0, .int .i64 0, .int .i64 0, .nils, .nils], .struct [(0, 2), (1, 2), (2, 38), (3, 54), (5, 43), (6, 42)]⟩ .nil)) 114 ⟨7, 88, [.int .i64 0, .int .i64 0, .int .i64 0, .int .i64 0, .int .i64 0, .nils, .nils], .struct [(0, 2), (1, 2), (2, 38), (3, 54), (5, 43), (6, 42)]⟩ (.node (.node (.node .nil 115 ⟨1, 8, [.nilf], .other⟩ .nil) 116 ⟨1, 8, [.nilp], .other⟩ .nil) 117 ⟨1, 8, [.nilf], .other⟩ (.node (.node .nil 118 ⟨1, 8, [.nilf], .other⟩ .nil) 119 ⟨1, 8, [.nilf], .other⟩ .nil)))))) 120 ⟨1, 8, [.nilf], .other⟩ (.node (.node (.node (.node (.node (.node (.node .nil 121 ⟨1, 8, [.nilf], .other⟩ .nil) 122 ⟨1, 8, [.nilf], .other⟩ (.node .nil 123 ⟨1, 8, [.nilf], .other⟩ .nil)) 124 ⟨1, 8, [.int .u64 0], .int .u64⟩ (.node (.node .nil 125 ⟨1, 8, [.nilf], .other⟩ .nil) 126 ⟨1, 8, [.nilf], .other⟩ .nil)) 127 ⟨13, 112, [.int .i64 0, .int .i64 0, .int .i64 0, .int .i64 0, .int .i64 0, .int .i64 0, .int .i64 0, .int .i64 0, .int .i64 0, .int .i64 0, .str [], .int .i64 0, .int .i64 0], .struct [(0, 3), (1, 3), (2, 3), (3, 2), (4, 2), (5, 2), (6, 2), (7, 38), (8, 40), (10, 9), (11, 54)]⟩ (.node (.node (.node .nil 128 ⟨13, 112, [.int .i64 0, .int .i64 0, .int .i64 0, .int .i64 0, .int .i64 0, .int .i64 0, .int .i64 0, .int .i64 0, .int .i64 0, .int .i64 0, .str [], .int .i64 0, .int .i64 0], .struct [(0, 3), (1, 3), (2, 3), (3, 2), (4, 2), (5, 2), (6, 2), (7, 38), (8, 40), (10, 9), (11, 54)]⟩ .nil) 129 ⟨1, 8, [.nilf], .other⟩ (.node .nil 130 ⟨1, 8, [.nilf], .other⟩ .nil)) 131 ⟨1, 8, [.nilf], .other⟩ (.node (.node .nil 132 ⟨1, 8, [.nilf], .other⟩ .nil) 134 ⟨1, 8, [.nilf], .other⟩ .nil))) 136 ⟨1, 8, [.nilf], .other⟩ (.node (.node (.node (.node .nil 137 ⟨1, 8, [.nilf], .other⟩ .nil) 138 ⟨1, 8, [.nilf], .other⟩ (.node .nil 140 ⟨1, 8, [.nilf], .other⟩ .nil)) 141 ⟨1, 8, [.nilf], .other⟩ (.node (.node .nil 142 ⟨1, 8, [.nilf], .other⟩ .nil) 143 ⟨1, 8, [.nilf], .other⟩ .nil)) 144 ⟨1, 8, [.nilf], .other⟩ (.node (.node (.node .nil 145 ⟨1, 8, [.nilp], .ptr⟩ .nil) 146 ⟨1, 24, [.nils], .struct [(0, 37)]⟩ .nil) 147 ⟨1, 24, [.nils], .struct [(0, 37)]⟩ (.node (.node .nil 148 ⟨1, 24, [.nils], .struct [(0, 147)]⟩ .nil) 149 ⟨1, 24, [.nils], .struct [(0, 147)]⟩ .nil)))) 150 ⟨1, 8, [.nilf], .other⟩ (.node (.node (.node (.node (.node .nil 153 ⟨1, 8, [.nilf], .other⟩ .nil) 154 ⟨1, 8, [.nilf], .other⟩ (.node .nil 155 ⟨1, 8, [.nilf], .other⟩ .nil)) 156 ⟨1, 8, [.nilf], .other⟩ (.node (.node .nil 157 ⟨1, 8, [.nilf], .other⟩ .nil) 158 ⟨1, 8, [.nilf], .other⟩ .nil)) 159 ⟨1, 8, [.nilf], .other⟩ (.node (.node (.node .nil 160 ⟨1, 8, [.nilf], .other⟩ .nil) 161 ⟨1, 8, [.nilf], .other⟩ .nil) 162 ⟨1, 24, [.nils], .slice 3⟩ (.node (.node .nil 163 ⟨1, 8, [.nilf], .other⟩ .nil) 164 ⟨1, 8, [.nilf], .other⟩ .nil))) 165 ⟨1, 8, [.nilf], .other⟩ (.node (.node (.node (.node .nil 166 ⟨1, 8, [.nilf], .other⟩ .nil) 167 ⟨1, 8, [.nilf], .other⟩ (.node .nil 168 ⟨1, 8, [.nilf], .other⟩ .nil)) 169 ⟨1, 8, [.nilf], .other⟩ (.node (.node .nil 170 ⟨1, 8, [.nilf], .other⟩ .nil) 171 ⟨1, 8, [.nilf], .other⟩ .nil)) 172 ⟨1, 8, [.nilf], .other⟩ (.node (.node (.node .nil 173 ⟨1, 8, [.nilf], .other⟩ .nil) 174 ⟨1, 8, [.nilf], .other⟩ .nil) 175 ⟨1, 8, [.nilf], .other⟩ (.node (.node .nil 176 ⟨1, 8, [.nilf], .other⟩ .nil) 177 ⟨1, 8, [.nilf], .other⟩ .nil))))) 178 ⟨1, 8, [.nilf], .other⟩ (.node (.node (.node (.node (.node (.node .nil 179 ⟨1, 8, [.nilf], .other⟩ .nil) 180 ⟨1, 8, [.nilf], .other⟩ (.node .nil 181 ⟨1, 8, [.nilf], .other⟩ .nil)) 183 ⟨1, 8, [.nilf], .other⟩ (.node (.node .nil 184 ⟨1, 8, [.nilf], .other⟩ .nil) 186 ⟨1, 8, [.nilf], .other⟩ .nil)) 187 ⟨1, 8, [.nilf], .other⟩ (.node (.node (.node .nil 188 ⟨1, 8, [.nilf], .other⟩ .nil) 189 ⟨1, 24, [.nils], .slice 2⟩ .nil) 190 ⟨1, 8, [.nilf], .other⟩ (.node (.node .nil 191 ⟨1, 8, [.nilf], .other⟩ .nil) 192 ⟨1, 8, [.nilf], .other⟩ .nil))) 193 ⟨1, 8, [.nilf], .other⟩ (.node (.node (.node (.node .nil 194 ⟨1, 8, [.int .i64 0], .struct [(0, 30)]⟩ .nil) 195 ⟨1, 8, [.int .i64 0], .struct [(0, 30)]⟩ (.node .nil 196 ⟨1, 8, [.nilp], .ptr⟩ .nil)) 197 ⟨1, 8, [.nilf], .other⟩ (.node (.node .nil 198 ⟨1, 8, [.nilf], .other⟩ .nil) 199 ⟨1, 8, [.nilf], .other⟩ .nil)) 201 ⟨1, 4, [.int .u32 0], .int .u32⟩ (.node (.node (.node .nil 203 ⟨1, 8, [.nilf], .other⟩ .nil) 204 ⟨1, 8, [.nilf], .other⟩ .nil) 205 ⟨1, 8, [.nilf], .other⟩ (.node (.node .nil 206 ⟨1, 8, [.nilf], .other⟩ .nil) 207 ⟨1, 8, [.nilf], .other⟩ .nil)))) 208 ⟨1, 8, [.nilf], .other⟩ (.node (.node (.node (.node (.node .nil 209 ⟨1, 8, [.nilf], .other⟩ .nil) 210 ⟨1, 8, [.nilf], .other⟩ (.node .nil 211 ⟨1, 8, [.nilf], .other⟩ .nil)) 212 ⟨1, 8, [.nilf], .other⟩ (.node (.node .nil 213 ⟨1, 8, [.nilf], .other⟩ .nil) 214 ⟨1, 8, [.nilp], .ptr⟩ .nil)) 215 ⟨1, 8, [.nilf], .other⟩ (.node (.node (.node .nil 216 ⟨1, 8, [.nilf], .other⟩ .nil) 217 ⟨1, 8, [.nilf], .other⟩ .nil) 218 ⟨1, 8, [.nilf], .other⟩ (.node (.node .nil 219 ⟨1, 8, [.nilf], .other⟩ .nil) 220 ⟨1, 24, [.nils], .slice 105⟩ .nil))) 221 ⟨1, 8, [.nilf], .other⟩ (.node (.node (.node (.node .nil 222 ⟨1, 24, [.nils], .slice 30⟩ .nil) 223 ⟨1, 8, [.nilf], .other⟩ (.node .nil 224 ⟨1, 8, [.nilf], .other⟩ .nil)) 225 ⟨1, 8, [.nilf], .other⟩ (.node (.node .nil 226 ⟨1, 8, [.nilf], .other⟩ .nil) 229 ⟨1, 8, [.nilf], .other⟩ .nil)) 235 ⟨1, 8, [.nilf], .other⟩ (.node (.node (.node .nil 236 ⟨1, 1, [.int .u8 0], .int .u8⟩ .nil) 237 ⟨1, 1, [.int .u8 0], .int .u8⟩ .nil) 238 ⟨1, 8, [.nilf], .other⟩ (.node (.node .nil 239 ⟨1, 4, [.int .i32 0], .int .i32⟩ .nil) 240 ⟨1, 4, [.int .i32 0], .int .i32⟩ .nil)))))))
def ttAll (p : Nat → TyI → Bool) : TT → Bool
  | .nil => true
  | .node l t i r => ttAll p l && (p t i && ttAll p r)
theorem look_all {p : Nat → TyI → Bool} : ∀ {tb : TT} {t : Nat} {i : TyI}, ttAll p tb = true → tb.look t = some i → p t i = true
  | .nil, _, _, _, h => by simp [TT.look] at h
  | .node l t' i' r, t, i, ha, h => by
    simp only [ttAll, Bool.and_eq_true] at ha
    simp only [TT.look] at h
    cases hb : Nat.beq t t' with
    | true =>
      rw [hb] at h
      injection h with h
      subst h
      cases Nat.eq_of_beq_eq_true hb
      exact ha.2.1
    | false =>
      rw [hb] at h
      cases hl : Nat.blt t t' with
      | true => rw [hl] at h; exact look_all ha.1 h
      | false => rw [hl] at h; exact look_all ha.2.2 h
def deq : D → D → Bool
  | .bool a, .bool b => a == b
  | .int k a, .int l b => k == l && a == b
  | .str [], .str [] => true
  | .nils, .nils => true
  | .nilp, .nilp => true
  | .nilf, .nilf => true
  | .nilm, .nilm => true
  | _, _ => false
theorem deq_ok {a b : D} (h : deq a b = true) : a = b := by
  unfold deq at h
  split at h <;> simp_all
def zeroB : List Value → List D → Bool
  | [], [] => true
  | v :: vs, d :: ds => (match zD v with | some e => deq e d | none => false) && zeroB vs ds
  | _, _ => false
theorem zeroB_ok : ∀ (vs : List Value) (ds : List D), zeroB vs ds = true → zeroOk vs ds
  | [], [], _ => trivial
  | v :: vs, d :: ds, h => by
    simp only [zeroB, Bool.and_eq_true] at h
    refine ⟨?_, zeroB_ok vs ds h.2⟩
    cases hz : zD v with
    | none => rw [hz] at h; cases h.1
    | some e => rw [hz] at h; rw [deq_ok h.1]
  | [], _ :: _, h => by simp [zeroB] at h
  | _ :: _, [], h => by simp [zeroB] at h
def tyB (P : Program) (t : Nat) (i : TyI) : Bool :=
  match P.info? t with
  | some inf => inf.size == i.size && inf.bytes == i.bytes && (kdOk P t i.kind && (!i.kind.isRow || eqOkB P t)) && (match inf.zero with
    | some z => zeroB z.cells.toList i.zero && z.cells.size == i.size && ((match z with | .agg _ => true | _ => false) == i.kind.isRow)
    | none => false)
  | none => false
theorem tyB_ok {P : Program} {t : Nat} {i : TyI} (h : tyB P t i = true) : i.ok P t := by
  unfold tyB at h
  split at h
  · rename_i inf hi
    simp only [Bool.and_eq_true, beq_iff_eq] at h
    obtain ⟨⟨⟨h1, h2⟩, h3, h5⟩, h4⟩ := h
    split at h4
    · rename_i z hz
      simp only [Bool.and_eq_true, beq_iff_eq] at h4
      obtain ⟨⟨k1, k2⟩, k3⟩ := h4
      refine ⟨⟨inf, z, hi, h1, h2, hz, zeroB_ok _ _ k1, k2, ?_⟩, h3, fun hr => by simpa [hr] using h5⟩
      rw [← k3]
      cases z <;> simp
    · cases h4
  · cases h
theorem tyTab_ok : tyTab.ok Tryz.prog := fun t i h => tyB_ok (look_all (p := tyB Tryz.prog) (by kernel_rfl) h)
end Go.Proofs.YtbbcepmhkocgbaaGreatDoor

/- Walks computed: the walk once more, by the recursors alone: so it unfolds in one way only, and two readings of a term meet at once. No program here. -/
namespace Go.Proofs.YtbbcepmhkocgbaaGreatDoor
open Go.RowKit
set_option linter.unusedVariables false

noncomputable def xR (E : En) (ops l : List Oper) : S → (S → T) → T :=
  List.rec (motive := fun _ => S → (S → T) → T) (fun s k => k s) (fun o _ ih s k => execG E ops o s (fun s' => ih s' k)) l
theorem xR_eq (E : En) (ops : List Oper) : ∀ (l : List Oper) (s : S) (k : S → T), xR E ops l s k = execR E ops l s k
  | [], s, k => rfl
  | o :: r, s, k => by
    show execG E ops o s (fun s' => xR E ops r s' k) = execG E ops o s (fun s' => execR E ops r s' k)
    rw [show (fun s' => xR E ops r s' k) = fun s' => execR E ops r s' k from funext fun s' => xR_eq E ops r s' k]
/-- an operation of a region that draws -/
def stepA (E : En) (ops : List Oper) (hr : List AO) (md : List Nat) (al : Bool) (o : Oper) (gr : Bool) (k : Bool → S → T) (s : S) : T :=
  bif al then (bif modsIn hr md (modsOf o.op s) then exec1 E o.op o.type s (fun d s' => put E o.dst d s' (k true)) else .fail 62)
  else bif isW E o.op s then .fail 63
  else bif isL E o.op s then (bif loadOk hr md gr o.op s then execL E o.op s (fun d => put E o.dst d s (k gr)) else .fail 64)
  else execP E o.op s (fun d => put E o.dst d s (k gr))
noncomputable def xA (E : En) (ops : List Oper) (hr : List AO) (md : List Nat) (l : List (Nat × Bool)) : Bool → S → (S → T) → T :=
  List.rec (motive := fun _ => Bool → S → (S → T) → T) (fun _ s k => k s) (fun p _ ih gr s k => match lop ops p.1 with
    | none => .fail 60
    | some o => match guardD ops o s with
      | none => .fail 61
      | some b => match o.guard with
        | none => stepA E ops hr md p.2 o gr (fun g s' => ih g s' k) s
        | some (j, want) => .br b (stepA E ops hr md p.2 o gr (fun g s' => ih g s' k) (lit ops s j want)) (put E o.dst (.tup []) (lit ops s j (!want)) fun s' => ih gr s' k)) l
theorem xA_eq (E : En) (ops : List Oper) (hr : List AO) (md : List Nat) : ∀ (l : List (Nat × Bool)) (gr : Bool) (s : S) (k : S → T), xA E ops hr md l gr s k = execA E ops hr md l gr s k
  | [], gr, s, k => rfl
  | (i, al) :: r, gr, s, k => by
    have e : (fun g s' => xA E ops hr md r g s' k) = fun g s' => execA E ops hr md r g s' k := funext fun g => funext fun s' => xA_eq E ops hr md r g s' k
    have e2 : ∀ g, (fun s' => xA E ops hr md r g s' k) = fun s' => execA E ops hr md r g s' k := fun g => congrFun e g
    show (match lop ops i with
      | none => .fail 60
      | some o => match guardD ops o s with
        | none => .fail 61
        | some b => match o.guard with
          | none => stepA E ops hr md al o gr (fun g s' => xA E ops hr md r g s' k) s
          | some (j, want) => .br b (stepA E ops hr md al o gr (fun g s' => xA E ops hr md r g s' k) (lit ops s j want)) (put E o.dst (.tup []) (lit ops s j (!want)) fun s' => xA E ops hr md r gr s' k) : T) = _
    rw [e, e2]
    rfl
noncomputable def xC (E : En) (m : Nat) (PL : List (Nat × Plan)) (c : Code) : S → (Exit → S → T) → T :=
  Code.rec (motive := fun _ => S → (Exit → S → T) → T)
    (fun s K => K .normal s)
    (fun id ops dr s K => match dr with
      | false => xR E ops.toList ops.toList s (K .normal)
      | true => .ask ((planOk ops (planOf PL id ops.toList s).ord (Array.replicate ops.size false) && (Region.noSelect ops && Nat.ble (planOf PL id ops.toList s).ord.length ops.size)) = true)
        (xA E ops.toList s.h (planOf PL id ops.toList s).md (planOf PL id ops.toList s).ord false s (K .normal)))
    (fun _ _ a b s K => a s fun e s' => match e with
      | .normal => b s' K
      | e => K e s')
    (fun c _ _ a b s K => match ev s c with
      | .bool v => .br v (a s K) (b s K)
      | _ => .fail 70)
    (fun id _ c s K => c s fun e s' => match e with
      | .exit id' => bif Nat.beq id' id then K .normal s' else K (.exit id') s'
      | e => K e s')
    (fun _ c s K => .loop m s (fun s' => c s' .leaf) K)
    (fun _ _ _ _ _ _ _ _ => .fail 71)
    (fun id s K => K (.exit id) s)
    (fun _ _ _ _ => .fail 71)
    (fun _ _ _ => .fail 71)
    (fun _ _ _ => .fail 71)
    (fun s K => K .ret s)
    (fun _ _ _ => .fail 71) c
theorem xC_eq (E : En) (m : Nat) (PL : List (Nat × Plan)) : ∀ (c : Code) (s : S) (K : Exit → S → T), xC E m PL c s K = execC E m PL c s K
  | .skip, s, K => rfl
  | .region id ops false, s, K => xR_eq E ops.toList ops.toList s (K .normal)
  | .region id ops true, s, K => by
    show T.ask _ (xA E ops.toList s.h (planOf PL id ops.toList s).md (planOf PL id ops.toList s).ord false s (K .normal)) = _
    rw [xA_eq]
    rfl
  | .seq a b, s, K => by
    show xC E m PL a s (fun e s' => match e with
      | .normal => xC E m PL b s' K
      | e => K e s') = _
    rw [xC_eq E m PL a]
    show _ = execC E m PL a s (fun e s' => match e with
      | .normal => execC E m PL b s' K
      | e => K e s')
    congr 1
    funext e s'
    cases e <;> first | exact xC_eq E m PL b s' K | rfl
  | .cond c a b, s, K => by
    show (match ev s c with
      | .bool v => .br v (xC E m PL a s K) (xC E m PL b s K)
      | _ => .fail 70 : T) = _
    rw [xC_eq E m PL a, xC_eq E m PL b]
    rfl
  | .block id c, s, K => xC_eq E m PL c s _
  | .loop c, s, K => by
    show T.loop m s (fun s' => xC E m PL c s' .leaf) K = _
    rw [show (fun s' => xC E m PL c s' .leaf) = fun s' => execC E m PL c s' .leaf from funext fun s' => xC_eq E m PL c s' .leaf]
    rfl
  | .exit id, s, K => rfl
  | .ret, s, K => rfl
  | .rangeFunc _ _ _ _, s, K => rfl
  | .scope _, s, K => rfl
  | .label _, s, K => rfl
  | .goto _, s, K => rfl
  | .refuse _, s, K => rfl
end Go.Proofs.YtbbcepmhkocgbaaGreatDoor

/- The rule for this program's functions; elder contracts as data. -/
namespace Go.Proofs.YtbbcepmhkocgbaaGreatDoor
open Go.RowKit
set_option linter.unusedVariables false

theorem mkS' (dt : Bool) {f : FuncId} {fn : Func} {c : Code} {ar : List D} {h : List AO} {Post : D → List AO → Prop} (n : Nat) (PL : List (Nat × Plan)) (hf : Tryz.prog.funcs[f]? = some fn) (hb : fn.body = some c) (hn : (Nat.beq fn.ntmps n && (Nat.ble ar.length n && calleeOk Tryz.prog f)) = true)
    (hx : (xC ⟨tyTab, n, dt⟩ h.length PL c ⟨argT 0 ar, h⟩ .leaf).ok Tryz.prog (Lf tyTab fn.results.toList h Post)) : FnS Tryz.prog f ar h Post := by
  simp only [Bool.and_eq_true] at hn
  rw [xC_eq] at hx
  exact FnS.of_exec (E := ⟨tyTab, n, dt⟩) hf hb (Nat.eq_of_beq_eq_true hn.1) tyTab_ok (by kernel_rfl) hn.2.2 rfl (Nat.le_of_ble_eq_true hn.2.1) hx
theorem mkS {f : FuncId} {fn : Func} {c : Code} {ar : List D} {h : List AO} {Post : D → List AO → Prop} (n : Nat) (PL : List (Nat × Plan)) (hf : Tryz.prog.funcs[f]? = some fn) (hb : fn.body = some c) (hn : (Nat.beq fn.ntmps n && (Nat.ble ar.length n && calleeOk Tryz.prog f)) = true)
    (hx : (xC ⟨tyTab, n, true⟩ h.length PL c ⟨argT 0 ar, h⟩ .leaf).ok Tryz.prog (Lf tyTab fn.results.toList h Post)) : FnS Tryz.prog f ar h Post := mkS' true n PL hf hb hn hx
theorem FnS.old {P : Program} {f : FuncId} {ar : List D} {r : D} {v : Value} (hv : ∀ I w, Dr I w v r) (hcal : calleeOk P f = true) (h : ∀ w I vs, Drs I w vs ar → Calls P f vs.toArray w fun e w' => e = .returned v ∧ B w w') (hp : pureD.pl ar = true) : FnS P f ar [] (fun r' h' => r' = r ∧ h' = []) := by
  refine ⟨hcal, fun w I g vs hd ha => (h w I vs (pureL_ok ha hp)).mono ?_⟩
  rintro e w' ⟨rfl, hb⟩
  have hg : g = [] := List.eq_nil_of_length_eq_zero hd.len
  subst hg
  exact ⟨v, I, [], r, [], rfl, ⟨rfl, rfl⟩, hd.later hb, .rd (hv I w'), Ext.of_B hb, fun _ h => h, fun _ h => .inl h, fun b h => .inl h, fun o p t cs _ h => by simp at h⟩
/-- an elder contract over a reading -/
theorem FnP.ofT {P : Program} {f : FuncId} {α : Type} {T : Ty α} {A : Dt α} (L : Lk T A) {a : α} (ok : A.ok a) {v : Value} {r : D} (hv : ∀ I w, Dr I w v r) (hcal : calleeOk P f = true) (hp : pureD.pl (A.c a) = true) (h : ∀ {inn : Nat → Prop} {w : World} {cs : List Value}, T.rd inn w cs a → Calls P f #[.agg cs.toArray] w fun e w' => e = .returned v ∧ B w w') : FnP P f [.agg (A.c a)] r :=
  FnS.old hv hcal (fun w I vs hd => by
    obtain ⟨u, rfl, h1⟩ := hd.one_inv
    obtain ⟨us, rfl, k1, k2⟩ := (Vr.rd (g := []) h1).agg_inv
    exact h (L.of (pureL_ok k1 hp) ok)) (by simp only [pureD.pl, pureD, hp]; rfl)
end Go.Proofs.YtbbcepmhkocgbaaGreatDoor
