/- Lemmas and contracts, part 19. -/
import Derived.Test.YtoikjgcggmemaaaGreatDoorZb18
import Derived.Maps.Views
/- A log's file in plain Lean; maps under numbers; lists of byte strings among the arguments. -/
namespace Go.Proofs.YtoikjgcggmemaaaGreatDoor
open Go.ChangeShapes Go.WideShapes Go.ChangeAt Go.RowKit Go.Maps Go.Deep
set_option linter.unusedVariables false

/-- the slice value v reads as the byte strings L; all that is read lies in blocks of 'inn' -/
def Lss (inn : Nat → Prop) (w : World) (v : Value) (L : List (List UInt8)) : Prop :=
  ∃ (A : Option Addr) (cap : Nat), v = .slice A L.length cap ∧ (A = none → L.length = 0 ∧ cap = 0) ∧ L.length ≤ cap ∧ cap ≤ maxLen ∧ (0 < L.length → ∃ b off, A = some ⟨b, off, none⟩ ∧ b < w.heap.size ∧ inn b ∧
    ∀ i x, L[i]? = some x → ∃ u, w.cell? ⟨b, off + i, none⟩ = some u ∧ Bs w u x ∧ ∀ g, u.ownBlock = some g → x ≠ [] → inn g)
theorem Lss.ext {inn own : Nat → Prop} {w w' : World} {v : Value} {L : List (List UInt8)} (h : Lss inn w v L) (hb : Ext own w w') (hd : ∀ g, inn g → ¬ own g) : Lss inn w' v L := by
  obtain ⟨A, cap, rfl, hn, hc, hm, hr⟩ := h
  refine ⟨A, cap, rfl, hn, hc, hm, fun h0 => ?_⟩
  obtain ⟨b, off, rfl, hb1, hi, hx⟩ := hr h0
  refine ⟨b, off, rfl, Nat.lt_of_lt_of_le hb1 hb.size, hi, fun i x hix => ?_⟩
  obtain ⟨u, h1, h2, h3⟩ := hx i x hix
  exact ⟨u, hb.cell (hd b hi) h1, h2.ext hb (fun g hg hne => hd g (h3 g hg hne)), h3⟩
theorem Lss.later {inn : Nat → Prop} {w w' : World} {v : Value} {L : List (List UInt8)} (h : Lss inn w v L) (hb : B w w') : Lss inn w' v L := h.ext (Ext.of_B (own := fun _ => False) hb) (fun _ _ => id)
section
variable {H : Type} {enc : TypeId × Value → H} {P : Program} {w : World} {base : Nat} {held : Bool} {spare : Nat → Bool}
/-- how much a list of byte strings holds -/
def bulkL (L : List (List UInt8)) : Nat := (L.map (fun x => x.length + 1)).sum
theorem open_bssU {r : Reach} {b0 : Nat} {T t e : TypeId} {v : Value} {d : DataW H} {p : List MemPlace} (hT : P.underlying T = some (.slice t)) (ht : P.underlying t = some (.slice e)) (he : P.underlying e = some (.int .u8)) (hCt : P.cellsOf t = 1) (hC : P.cellsOf e = 1)
    (hv : Value.okWide P w r b0 T v) (h : DataW.Trod enc P w base spare held T v d p) (hB : Rows.uptoBulk d ≤ 1048576) : ∃ L, Lss (fun g => g < w.heap.size) w v L ∧ bulkL L + 1 ≤ Rows.uptoBulk d := by
  obtain ⟨A, len, cap, rfl⟩ := okWide_slice hT hv
  obtain ⟨fuel, hf⟩ := h
  rcases open_slice1 hT hCt hf with ⟨h2, h3⟩ | ⟨a, len', cap', m, n, V, D, Pl, hcs, hb, hl, hm, hmm, hx, hi⟩
  · simp [Value.cells] at h2
    obtain ⟨rfl, rfl, rfl⟩ := h2
    exact ⟨[], ⟨none, 0, rfl, fun _ => ⟨rfl, rfl⟩, Nat.le_refl _, by unfold maxLen; omega, fun h => by simp at h⟩, by have := bulk_one d; simpa [bulkL] using this⟩
  · simp [Value.cells] at hcs
    obtain ⟨rfl, rfl, rfl⟩ := hcs
    have hlm : len ≤ m := by rw [hmm]; split <;> omega
    simp only [Prod.mk.injEq] at hx
    have hall : Rows.uptoBulkAll ((List.range len).map D) + 1 ≤ Rows.uptoBulk d := by rw [hx.1, ← bulk_slice]; omega
    have hat : ∀ i, i < len → Rows.uptoBulk (D i) ≤ Rows.uptoBulkAll ((List.range len).map D) := by
      intro i hil
      have : ∀ (l : List (DataW H)) (y : DataW H), y ∈ l → Rows.uptoBulk y ≤ Rows.uptoBulkAll l := by
        intro l y hy
        induction l with
        | nil => cases hy
        | cons z r ih =>
          simp only [Rows.uptoBulkAll]
          rcases List.mem_cons.1 hy with e | e
          · subst e; omega
          · have := ih e; omega
      exact this _ _ (List.mem_map.2 ⟨i, by simpa using hil, rfl⟩)
    obtain ⟨L, hLl, hL⟩ := list_choose (P := fun i (x : List UInt8) => (∃ u, w.cell? (a.add i) = some u ∧ Bs w u x) ∧ x.length + 1 ≤ Rows.uptoBulk (D i)) len (fun i hil => by
      obtain ⟨hc, htr⟩ := hi i (by omega)
      obtain ⟨bs, hbs, hbl⟩ := bs_upto ht he hC htr (by have := hat i hil; show Rows.uptoBulk (D i) ≤ _; omega)
      exact ⟨bs, ⟨V i, hc, hbs⟩, hbl⟩)
    refine ⟨L, ⟨some a, cap, by rw [hLl], fun h => (by cases h), by omega, hm, fun hn => ?_⟩, ?_⟩
    · obtain ⟨⟨u0, z, _⟩, _⟩ := hL 0 _ (List.getElem?_eq_getElem hn)
      have za : a = ⟨a.block, a.off, none⟩ := by
        have := cell_spot z
        simp [Addr.add] at this
        exact this
      have hblt := World.block_lt_of_cell? w _ z
      rw [block_of_add] at hblt
      refine ⟨a.block, a.off, by rw [← za], hblt, hblt, fun i x hx => ?_⟩
      obtain ⟨⟨u, h1, h2⟩, _⟩ := hL i x hx
      rw [za, addr_add] at h1
      exact ⟨u, h1, h2, fun g hg hne => h2.lt hne hg⟩
    · have := bulk_sum (fun x : List UInt8 => x.length + 1) L ((List.range len).map D) (by simp [hLl]) (fun i x d hx hd => by
        have hil : i < len := by
          rcases Nat.lt_or_ge i L.length with h | h
          · omega
          · rw [List.getElem?_eq_none h] at hx; cases hx
        rw [List.getElem?_map, List.getElem?_range hil] at hd
        cases hd
        exact (hL i x hx).2)
      unfold bulkL
      omega
end
/-- a map as an object, whatever its elements -/
def aMapR (P : Program) (k : TypeId) (R : Value → Option (DataW Unit × List MemPlace)) (m : Nat) (D : DataW Unit) : Asn where
  at_ own w := own m ∧ ∃ n, w.ownsMap P k R m n D
  ext h hx hd := by
    obtain ⟨h1, n, es, clock, hb, r⟩ := h
    exact ⟨h1, n, es, clock, (hx.block m (Array.getElem?_eq_some_iff.1 hb).1 (hd _ h1)).trans hb, r⟩
  bound h := by
    obtain ⟨h1, n, h2⟩ := h
    exact ⟨⟨h1, h2.lt⟩, n, h2⟩
section
variable {W w : World} {P : Program} {k e T : TypeId} {R : Value → Option (DataW Unit × List MemPlace)} {m : Nat} {D : DataW Unit} {L : List Asn}
theorem aMapR.new (h : St W w L) : St W (w.alloc (.map #[] 0)) (aMapR P k R w.heap.size (.map []) :: L) :=
  h.add (B.alloc' _ _) (A := aMapR P k R w.heap.size (.map [])) (own := fun x => x = w.heap.size) ⟨rfl, 0, World.ownsMap_made w P k R⟩ (fun x e => by omega)
theorem aMapR.look (h : St W w (aMapR P k R m D :: L)) (K : Keyed P k) (ht : P.underlying T = some (.map k e)) {z : Value} (hz : (zeroValue e).run P w = .ok z w) {zd : DataW Unit} {zp : List MemPlace} (hzd : R z = some (zd, zp)) {key : Value} {kl : Lit} (hkey : keyOf P k key = some kl) :
    ∃ v ps, (Instr.lookup T (.map (some m)) key false).run P w = .ok v w ∧ R v = some (D.atKey kl zd, ps) := by
  obtain ⟨own, ⟨h1, n, hn⟩, _⟩ := h.get
  exact hn.lookup K ht hz hzd hkey
theorem aMapR.store (h : St W w (aMapR P k R m D :: L)) {N : Nat} (hD : ∃ E, D = .map E ∧ E.length ≤ N) (hN : N < maxLen) (K : Keyed P k) (ht : P.underlying T = some (.map k e)) {key val : Value} {kl : Lit} {d : DataW Unit} {ps : List MemPlace} (hkey : keyOf P k key = some kl) (hv : R val = some (d, ps)) :
    ∃ w', (Instr.mapUpdate T (.map (some m)) key val).run P w = .ok () w' ∧ St W w' (aMapR P k R m (D.put kl d) :: L) ∧ ∃ E, D.put kl d = .map E ∧ E.length ≤ N + 1 := by
  obtain ⟨own, ⟨h1, n, h2⟩, ho, hback⟩ := h.focus
  obtain ⟨E, rfl, hE⟩ := hD
  obtain ⟨w', r1, r2, r3⟩ := (ownsMap_tight h2).store K ht (by omega) hkey hv
  refine ⟨w', r1, hback w' (aMapR P k R m _) (Ext.of_grown r3.grown (fun x hx => by injection hx with hx; rw [← hx]; exact h1)) ⟨.inl h1, _, r2⟩, ?_⟩
  refine ⟨_, rfl, ?_⟩
  have := List.length_filter_le (fun p : Lit × DataW Unit => !p.1.sameKey kl) E
  rw [length_insert]
  omega
end
/-- slices, told whole -/
def valAt : Value → Option (DataW Unit × List MemPlace)
  | .slice none l c => some (.agg [.nil, .lit (.int .i64 (l : Int)), .lit (.int .i64 (c : Int))], [])
  | .slice (some ⟨g, o, none⟩) l c => some (.agg [.lit (.int .i64 (g : Int)), .lit (.int .i64 (o : Int)), .lit (.int .i64 (l : Int)), .lit (.int .i64 (c : Int))], [])
  | .slice (some ⟨g, o, some s⟩) l c => some (.agg [.lit (.int .i64 (g : Int)), .lit (.int .i64 (o : Int)), .lit (.int .i64 (s : Int)), .lit (.int .i64 (l : Int)), .lit (.int .i64 (c : Int))], [])
  | _ => none
theorem valAt_inj {v u : Value} {y : DataW Unit} {p q : List MemPlace} (h : valAt v = some (y, p)) (k : valAt u = some (y, q)) : v = u := by
  unfold valAt at h k
  split at h <;> split at k <;> simp_all
  all_goals
    obtain ⟨h1, _⟩ := h
    obtain ⟨k1, _⟩ := k
    rw [← h1] at k1
    simp at k1 <;> first
      | omega
      | (simp_all; done)
      | (simp_all; omega)
theorem i64Law : Keyed Tryz.prog 2 := int_keyed Tryz.underlying2
theorem keyI {n : Int} (h : -9223372036854775808 ≤ n ∧ n ≤ 9223372036854775807) : keyOf Tryz.prog 2 (.int .i64 n) = some (.int .i64 n) :=
  keyOf_int_mk Tryz.underlying2 (by simp [Lit.wf, IntKind.min, IntKind.max, IntKind.signed, IntKind.bits]; omega)
theorem zeroBy (w : World) : (zeroValue 32).run Tryz.prog w = .ok (.slice none 0 0) w := by kernel_rfl
abbrev aM64 (m : Nat) (D : DataW Unit) : Asn := aMapR Tryz.prog 2 valAt m D
/-! the file of a log whose records are R -/
def bodyR (R : List (List UInt8)) : List UInt8 := R.flatMap frameF
def fileD (R : List (List UInt8)) : List UInt8 := headF 1 ++ bodyR R
theorem bodyR_app (R S : List (List UInt8)) : bodyR (R ++ S) = bodyR R ++ bodyR S := by simp [bodyR]
theorem fileD_snoc (R : List (List UInt8)) (b : List UInt8) : fileD (R ++ [b]) = fileD R ++ frameF b := by
  unfold fileD; rw [bodyR_app]; simp [bodyR]
theorem fileD_nil : fileD [] = headF 1 := by simp [fileD, bodyR]
theorem framesF_body : ∀ (R : List (List UInt8)) (rest : List UInt8), (∀ b ∈ R, b.length ≤ 524288) → framesF (bodyR R ++ rest) = R.map (fun b => (b, (frameF b).length)) ++ framesF rest
  | [], rest, _ => by simp [bodyR]
  | b :: R, rest, h => by
    have hb := h b (by simp)
    have e : bodyR (b :: R) ++ rest = frameF b ++ (bodyR R ++ rest) := by simp [bodyR]
    rw [e, framesF_some (unframe_frame hb)]
    simp only [List.drop_left]
    rw [framesF_body R rest (fun x hx => h x (by simp [hx]))]
    rfl
theorem head_body (x : List UInt8) : (headF 1 ++ x).drop 6 = x := by rw [← head1_len, List.drop_left]
def lgD (R : List (List UInt8)) : Lg := ⟨nLog, 4194304, 0, 1, 1, ((fileD R).length : Int), R⟩
theorem lgD_nil : lgD [] = lg0 nLog 4194304 0 := by unfold lgD lg0; rw [fileD_nil, head1_len]; rfl
theorem lgD_add (R : List (List UInt8)) (b : List UInt8) : (lgD R).add b = lgD (R ++ [b]) := by
  unfold lgD Lg.add; simp only; rw [fileD_snoc, List.length_append]; simp
theorem lgD_last (R : List (List UInt8)) : lastF (lgD R) = (R.length : Int) := by unfold lastF lgD; simp only; omega
/-- where each record ends -/
def endsC (R : List (List UInt8)) : List Value := (List.range R.length).map fun i : Nat => Value.int .i64 ((fileD (R.take (i + 1))).length : Int)
theorem endsC_len (R : List (List UInt8)) : (endsC R).length = R.length := by simp [endsC]
theorem endsC_snoc (R : List (List UInt8)) (b : List UInt8) : endsC (R ++ [b]) = endsC R ++ [.int .i64 ((fileD (R ++ [b])).length : Int)] := by
  unfold endsC
  rw [List.length_append, List.length_singleton, List.range_succ, List.map_append]
  congr 1
  · apply List.map_congr_left
    intro i hi
    have : i < R.length := by simpa using hi
    rw [List.take_append_of_le_length (by omega)]
  · rw [List.map_singleton, List.take_of_length_le (by simp)]
theorem endsC_get (R : List (List UInt8)) {k : Nat} (h : k < R.length) : (endsC R)[k]? = some (.int .i64 ((fileD (R.take (k + 1))).length : Int)) := by
  simp [endsC, h]
/-- the file cut at a record: ahead of its bytes, its bytes and its sum, behind -/
def preD (R : List (List UInt8)) (k : Nat) (b : List UInt8) : List UInt8 := fileD (R.take k) ++ enc b.length
def midD (b : List UInt8) : List UInt8 := b ++ le4 (sumF (bodyF b))
def postD (R : List (List UInt8)) (k : Nat) : List UInt8 := bodyR (R.drop (k + 1))
theorem file_cut {R : List (List UInt8)} {k : Nat} {b : List UInt8} (h : R[k]? = some b) : fileD R = preD R k b ++ midD b ++ postD R k := by
  have hk := lt_of h
  have e : R = R.take k ++ b :: R.drop (k + 1) := by
    have h2 : R[k] = b := by rw [List.getElem?_eq_getElem hk] at h; exact Option.some.inj h
    rw [← h2, List.getElem_cons_drop]
    exact (List.take_append_drop k R).symm
  conv => lhs; rw [e]
  unfold fileD preD midD postD fileD
  rw [bodyR_app, show bodyR (b :: R.drop (k + 1)) = frameF b ++ bodyR (R.drop (k + 1)) by simp [bodyR], frame_eq]
  simp
theorem file_end {R : List (List UInt8)} {k : Nat} {b : List UInt8} (h : R[k]? = some b) : fileD (R.take (k + 1)) = preD R k b ++ midD b := by
  have hk := lt_of h
  have h2 : R[k] = b := by rw [List.getElem?_eq_getElem hk] at h; exact Option.some.inj h
  rw [List.take_succ_eq_append_getElem hk, h2, fileD_snoc, frame_eq]
  unfold preD midD
  simp
theorem mid_len (b : List UInt8) : (midD b).length = b.length + 4 := by simp [midD, le4]
/-- the file with a burst -/
def hurtD (R : List (List UInt8)) (k : Nat) (b : List UInt8) (f : Nat) (bs : BitVec 32) : List UInt8 := preD R k b ++ flips (midD b) f bs 32 ++ postD R k
theorem hurt_len {R : List (List UInt8)} {k : Nat} {b : List UInt8} {f : Nat} {bs : BitVec 32} (h : R[k]? = some b) : (hurtD R k b f bs).length = (fileD R).length := by
  rw [file_cut h]; unfold hurtD; simp [flips_len]
theorem hurt_none {R : List (List UInt8)} {k : Nat} {b : List UInt8} {f : Nat} {bs : BitVec 32} (h : R[k]? = some b) (ht : turnedF (8 * (b.length + 4)) f bs 32 = false) : hurtD R k b f bs = fileD R := by
  rw [file_cut h]; unfold hurtD
  rw [turned_none (by rw [mid_len]; exact ht)]
theorem hurt_head (R : List (List UInt8)) (k : Nat) (b : List UInt8) (f : Nat) (bs : BitVec 32) : hurtD R k b f bs = headF 1 ++ (bodyR (R.take k) ++ (enc b.length ++ flips (midD b) f bs 32 ++ postD R k)) := by
  unfold hurtD preD fileD; simp
theorem hurt_frames {R : List (List UInt8)} {k : Nat} {b : List UInt8} {f : Nat} {bs : BitVec 32} (hR : ∀ b ∈ R, b.length ≤ 524288) (h : R[k]? = some b) (ht : turnedF (8 * (b.length + 4)) f bs 32 = true) :
    framesF ((hurtD R k b f bs).drop 6) = (R.take k).map (fun b => (b, (frameF b).length)) := by
  rw [hurt_head, head_body, framesF_body _ _ (fun x hx => hR x (List.mem_of_mem_take hx)), framesF_none (show unframeF (enc b.length ++ flips (midD b) f bs 32 ++ postD R k) = none from frame_flips (hR b (List.mem_of_getElem? h)) ht), List.append_nil]
theorem file_frames {R : List (List UInt8)} (hR : ∀ b ∈ R, b.length ≤ 524288) : framesF ((fileD R).drop 6) = R.map (fun b => (b, (frameF b).length)) := by
  unfold fileD
  have := framesF_body R [] hR
  rw [List.append_nil] at this
  rw [head_body, this, framesF_none unframe_nil, List.append_nil]
/-- the log of a file of such frames -/
theorem lg_of {B : List UInt8} {S : List (List UInt8)} (h : framesF (B.drop 6) = S.map (fun b => (b, (frameF b).length))) : (lgOpen nLog 4194304 B 1 6).L = S ∧ (lgOpen nLog 4194304 B 1 6).first = 1 ∧ lastF (lgOpen nLog 4194304 B 1 6) = (S.length : Int) := by
  have e : (framesF (B.drop 6)).map (·.1) = S := by rw [h, List.map_map]; exact List.map_id' S
  refine ⟨e, rfl, ?_⟩
  unfold lastF lgOpen lgOf
  simp only
  rw [e]; omega
/-- what 'had' says -/
structure HadN (W : World) (R : List (List UInt8)) (D : DataW Unit) : Prop where
  had : ∀ (i : Nat) (b : List UInt8), R[i]? = some b → ∃ v y, valAt v = some (y, []) ∧ (∀ z, D.atKey (.int .i64 (1 + (i : Int))) z = y) ∧ Bs W v b
  e1 : ∃ E, D = .map E ∧ E.length ≤ R.length
theorem HadN.start (W : World) : HadN W [] (.map []) := ⟨fun i b h => by simp at h, _, rfl, Nat.le_refl _⟩
theorem HadN.step {W : World} {R : List (List UInt8)} {D : DataW Unit} (h : HadN W R D) {v : Value} {b : List UInt8} {y : DataW Unit} (hv : valAt v = some (y, [])) (hb : Bs W v b) (h1 : ∃ E, D.put (.int .i64 (1 + (R.length : Int))) y = .map E ∧ E.length ≤ R.length + 1) :
    HadN W (R ++ [b]) (D.put (.int .i64 (1 + (R.length : Int))) y) := by
  obtain ⟨a1, E, eE, _⟩ := h
  refine ⟨fun i c hc => ?_, by rw [List.length_append]; exact h1⟩
  by_cases e : i = R.length
  · subst e
    rw [List.getElem?_append_right (Nat.le_refl _), Nat.sub_self] at hc
    obtain rfl := Option.some.inj hc
    exact ⟨v, y, hv, fun z => atKey_put_same ⟨_, eE⟩ (by trivial) _ _, hb⟩
  · have hi := lt_of hc
    rw [List.length_append, List.length_singleton] at hi
    rw [List.getElem?_append_left (by omega)] at hc
    obtain ⟨u, z, k1, k2, k3⟩ := a1 i c hc
    refine ⟨u, z, k1, fun t => ?_, k3⟩
    rw [atKey_put_other (by intro e2; injection e2 with _ e3; omega)]
    exact k2 t
theorem HadN.look {W w : World} {R : List (List UInt8)} {D : DataW Unit} (h : HadN W R D) (hR : R.length ≤ 1048576) {m : Nat} {X : List Asn} (hS : St W w (aM64 m D :: X)) {i : Nat} {b : List UInt8} (hi : R[i]? = some b) :
    ∃ v, (Instr.lookup 31 (.map (some m)) (.int .i64 (1 + (i : Int))) false).run Tryz.prog w = .ok v w ∧ Bs w v b := by
  have hil := lt_of hi
  obtain ⟨v, ps, h1, h2⟩ := aMapR.look hS i64Law Tryz.underlying31 (zeroBy w) (show valAt (.slice none 0 0) = some (_, []) from rfl) (keyI (n := 1 + (i : Int)) (by omega))
  obtain ⟨u, y, k1, k2, k3⟩ := h.had i b hi
  rw [k2] at h2
  obtain rfl := valAt_inj h2 k1
  exact ⟨v, h1, k3.later hS.b⟩
theorem HadN.lookv {W : World} {R : List (List UInt8)} {D : DataW Unit} (h : HadN W R D) (hR : R.length ≤ 1048576) {i : Nat} {b : List UInt8} (hi : R[i]? = some b) :
    ∃ v, Bs W v b ∧ ∀ (w : World) (m : Nat) (X : List Asn), St W w (aM64 m D :: X) → (Instr.lookup 31 (.map (some m)) (.int .i64 (1 + (i : Int))) false).run Tryz.prog w = .ok v w := by
  have hil := lt_of hi
  obtain ⟨u, y, k1, k2, k3⟩ := h.had i b hi
  refine ⟨u, k3, fun w m X hS => ?_⟩
  obtain ⟨v, ps, h1, h2⟩ := aMapR.look hS i64Law Tryz.underlying31 (zeroBy w) (show valAt (.slice none 0 0) = some (_, []) from rfl) (keyI (n := 1 + (i : Int)) (by omega))
  rw [k2] at h2
  obtain rfl := valAt_inj h2 k1
  exact h1
theorem valBs {w : World} {v : Value} {b : List UInt8} (h : Bs w v b) : ∃ y, valAt v = some (y, []) := by
  rcases h.isNil with ⟨rfl, _⟩ | ⟨⟨g, o, s⟩, cap, rfl⟩
  · exact ⟨_, rfl⟩
  · cases s <;> exact ⟨_, rfl⟩
end Go.Proofs.YtoikjgcggmemaaaGreatDoor

/- A log of several segments: its files' bytes, what a cut leaves of them, what is read again. Plain. -/
namespace Go.Proofs.YtoikjgcggmemaaaGreatDoor
set_option linter.unusedVariables false

/-- a segment: its number, its first record's number, its records -/
structure Sg where
  n : Nat
  first : Nat
  L : List (List UInt8)
def segB (s : Sg) : List UInt8 := headF s.first ++ bodyR s.L
/-- the last record's number -/
def Sg.last (s : Sg) : Int := (s.first : Int) + s.L.length - 1
theorem unframe_is {bs x : List UInt8} {n : Nat} (h : unframeF bs = some (x, n)) : ∃ rest, bs = frameF x ++ rest ∧ n = (frameF x).length ∧ x.length ≤ 524288 := by
  unfold unframeF at h
  obtain ⟨⟨y, b1, e1⟩, hb⟩ : ∃ r, bytesS bs 0 524288 = r := ⟨_, rfl⟩
  rw [hb] at h
  obtain ⟨⟨s, b2, e2⟩, ht⟩ : ∃ t, takeS b1 e1 4 = t := ⟨_, rfl⟩
  simp only at h
  rw [ht] at h
  simp only at h
  split at h
  · cases h
  · rename_i he
    obtain rfl : e2 = 0 := by omega
    obtain ⟨rfl, h4, rfl, h5⟩ := takeS4 ht
    have hr := bytesS_read hb
    have hle : y.length ≤ 524288 := by
      unfold bytesS at hb
      have hn := numS_le bs 0 (524288 : Int).toNat
      obtain ⟨⟨v, c1, c2⟩, hq⟩ : ∃ q, numS bs 0 (524288 : Int).toNat = q := ⟨_, rfl⟩
      rw [hq] at hb hn
      simp only at hb hn
      unfold takeS at hb
      split at hb
      · simp only [Prod.mk.injEq] at hb; rw [← hb.1]; simp
      · split at hb
        · simp only [Prod.mk.injEq] at hb; rw [← hb.1]; simp
        · split at hb
          · simp only [Prod.mk.injEq] at hb; rw [← hb.1]; simp
          · simp only [Prod.mk.injEq] at hb
            rw [← hb.1, List.length_take]
            have : ((524288 : Int).toNat) = 524288 := rfl
            omega
    have hl : bs.length - b1.length = (bodyF y).length := by
      rw [hr]; simp [bodyF]; omega
    have ht2 : bs.take (bodyF y).length = bodyF y := by
      rw [hr, show enc y.length ++ y = bodyF y from rfl, List.take_left]
    rw [hl, ht2] at h
    split at h
    · rename_i hc
      injection h with h
      injection h with h1 h2
      subst h1
      refine ⟨b1.drop 4, ?_, ?_, hle⟩
      · conv => lhs; rw [hr, ← List.take_append_drop 4 b1, hc]
        simp [frameF, bodyF]
      · rw [← h2]; simp [frameF, le4]
    · cases h
theorem unframe_pre {b : List UInt8} (h : b.length ≤ 524288) {i : Nat} (hi : i < (frameF b).length) : unframeF ((frameF b).take i) = none := by
  cases hu : unframeF ((frameF b).take i) with
  | none => rfl
  | some r =>
    obtain ⟨x, n⟩ := r
    obtain ⟨rest, e, hn, hx⟩ := unframe_is hu
    have h1 : unframeF (frameF b) = some (b, (frameF b).length) := by
      have := unframe_frame (b := b) (x := []) h
      rwa [List.append_nil] at this
    have e2 : frameF x ++ (rest ++ (frameF b).drop i) = frameF b := by
      rw [← List.append_assoc, ← e, List.take_append_drop]
    have h2 := unframe_frame (b := x) (x := rest ++ (frameF b).drop i) hx
    rw [e2, h1] at h2
    injection h2 with h2
    injection h2 with h3 h4
    have hl := congrArg List.length e
    rw [List.length_take, List.length_append] at hl
    omega
theorem bodyR_cons (b : List UInt8) (R : List (List UInt8)) : bodyR (b :: R) = frameF b ++ bodyR R := by simp [bodyR]
/-- records' bytes cut anywhere: so many records are whole, and what stands behind is none -/
theorem body_cut : ∀ (R : List (List UInt8)) (m : Nat), (∀ b ∈ R, b.length ≤ 524288) → ∃ j rest, j ≤ R.length ∧ (bodyR R).take m = bodyR (R.take j) ++ rest ∧ unframeF rest = none ∧ ∀ k, k ≤ R.length → (bodyR (R.take k)).length ≤ m → k ≤ j
  | [], m, _ => ⟨0, [], Nat.le_refl _, by simp [bodyR], unframe_nil, fun k hk _ => hk⟩
  | b :: R, m, h => by
    have hb := h b (by simp)
    by_cases hm : m < (frameF b).length
    · refine ⟨0, (frameF b).take m, Nat.zero_le _, ?_, unframe_pre hb hm, fun k hk hle => ?_⟩
      · rw [bodyR_cons, List.take_append_of_le_length (by omega)]
        simp [bodyR]
      · cases k with
        | zero => exact Nat.le_refl _
        | succ k =>
          rw [List.take_succ_cons, bodyR_cons, List.length_append] at hle
          omega
    · obtain ⟨j, rest, h1, h2, h3, h4⟩ := body_cut R (m - (frameF b).length) (fun x hx => h x (by simp [hx]))
      refine ⟨j + 1, rest, by simpa using h1, ?_, h3, fun k hk hle => ?_⟩
      · rw [bodyR_cons, List.take_append, List.take_of_length_le (by omega), h2, List.take_succ_cons, bodyR_cons, List.append_assoc]
      · cases k with
        | zero => omega
        | succ k =>
          rw [List.take_succ_cons, bodyR_cons, List.length_append] at hle
          have := h4 k (by simpa using hk) (by omega)
          omega
theorem head_len (k : Nat) (hk : k ≤ 9007199254740992) : (headF k).length ≤ 40 := by
  have h1 := enc_10 (n := k) (by omega)
  have h2 := enc_10 (n := (enc k).length) (by omega)
  unfold headF frameF bodyF
  simp only [List.length_append]
  have : (le4 (sumF (enc (enc k).length ++ enc k))).length = 4 := rfl
  omega
theorem head_read {k : Nat} (h1 : 1 ≤ k) (h2 : k ≤ 9007199254740992) (x : List UInt8) : headOf (headF k ++ x) = some (k, (headF k).length) := by
  have h3 := enc_10 (n := k) (by omega)
  unfold headOf headF
  rw [unframe_frame (by omega)]
  have h4 := numS_put (d := k) (most := 9007199254740992) (rest := []) (by omega) (by omega)
  rw [List.append_nil] at h4
  simp only
  rw [h4]
  simp only
  rw [if_pos ⟨rfl, h1⟩]
/-- a segment's bytes, cut behind so many of its records, or later -/
theorem seg_cut {s : Sg} (hL : ∀ b ∈ s.L, b.length ≤ 524288) {k m : Nat} (hk : k ≤ s.L.length) (hm : (headF s.first ++ bodyR (s.L.take k)).length ≤ m) : ∃ j rest, k ≤ j ∧ j ≤ s.L.length ∧ (segB s).take m = segB { s with L := s.L.take j } ++ rest ∧ unframeF rest = none := by
  rw [List.length_append] at hm
  obtain ⟨j, rest, h1, h2, h3, h4⟩ := body_cut s.L (m - (headF s.first).length) hL
  refine ⟨j, rest, h4 k hk (by omega), h1, ?_, h3⟩
  unfold segB
  rw [List.take_append, List.take_of_length_le (by omega), h2, List.append_assoc]
/-- what is read of such bytes -/
theorem seg_frames {R : List (List UInt8)} {rest : List UInt8} (hR : ∀ b ∈ R, b.length ≤ 524288) (hr : unframeF rest = none) : framesF (bodyR R ++ rest) = R.map (fun b => (b, (frameF b).length)) := by
  rw [framesF_body R rest hR, framesF_none hr, List.append_nil]
theorem seg_size (R : List (List UInt8)) : (R.map (fun b => ((frameF b).length : Int))).sum = ((bodyR R).length : Int) := by
  induction R with
  | nil => rfl
  | cons b R ih => rw [bodyR_cons, List.length_append, List.map_cons, List.sum_cons, ih]; omega
theorem crash_whole (k : Int) (n b : List UInt8) : crashB k ⟨n, b, b.length⟩ = ⟨n, b, b.length⟩ := by
  unfold crashB
  simp only [Int.sub_self, Int.zero_add, Int.emod_one, Int.toNat_zero, Nat.add_zero, List.take_length]
theorem crash_between (k : Int) (f : Fl) (h : f.sure ≤ f.b.length) : ∃ m, f.sure ≤ m ∧ m ≤ f.b.length ∧ crashB k f = ⟨f.nm, f.b.take m, m⟩ := by
  refine ⟨f.sure + (bareF k % ((f.b.length : Int) - f.sure + 1)).toNat, Nat.le_add_right _ _, ?_, rfl⟩
  have h1 : bareF k % ((f.b.length : Int) - f.sure + 1) < (f.b.length : Int) - f.sure + 1 := Int.emod_lt_of_pos _ (by omega)
  have h2 : 0 ≤ bareF k % ((f.b.length : Int) - f.sure + 1) := Int.emod_nonneg _ (by omega)
  omega
end Go.Proofs.YtoikjgcggmemaaaGreatDoor
