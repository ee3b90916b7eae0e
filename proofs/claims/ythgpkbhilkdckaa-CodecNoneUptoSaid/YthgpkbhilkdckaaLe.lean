/- The ledger: its place in memory, the map's laws at a struct key, contracts of its methods. -/
import Derived.Test.YthgpkbhilkdckaaH0
import Derived.Test.YthgpkbhilkdckaaRows
namespace Go.Proofs.Ythgpkbhilkdckaa
open Go.RowKit
set_option linter.unusedVariables false

/-- a signature as a value -/
abbrev sg (x : Int × Int) : Value := .agg #[.int .i64 x.1, .int .i64 x.2]

@[go_sem] theorem eq25 (a b c d : Int) (w : World) : (Op.equalIn 10000 25 (.agg #[.int .i64 a, .int .i64 b]) (.agg #[.int .i64 c, .int .i64 d])).run Try.prog w = .ok (a == c && b == d) w := by
  have hS : Try.prog.underlying 25 = some (.struct (Try.prog.fieldsOf 25)) := by kernel_rfl
  rw [show (10000 : Nat) = 9999 + 1 from rfl, run_equalIn_agg w 9999 25 _ _ hS (by kernel_rfl)]
  simp only [Program.fieldsOf, Try.underlying25]
  go_simp
  by_cases h1 : a = c <;> by_cases h2 : b = d <;> simp [h1, h2]

@[go_sem] theorem build25 (a b : Int) (w : World) : (Instr.build 25 #[(0, .int .i64 a), (1, .int .i64 b)]).run Try.prog w = .ok (.agg #[.int .i64 a, .int .i64 b]) w := run_build w 25 _ _ (by kernel_rfl)
@[go_sem] theorem build25_0 (w : World) : (Instr.build 25 #[]).run Try.prog w = .ok (.agg #[.int .i64 0, .int .i64 0]) w := run_build w 25 _ _ (by kernel_rfl)

theorem checkKey25 (b : Bool) (k d : Int) (w : World) : (Instr.checkKey b 10000 25 (.agg #[.int .i64 k, .int .i64 d])).run Try.prog w = .ok () w := by kernel_rfl

/-- the map's entries, in the order in which they came -/
def entsF : List (Int × Int) → Nat → List MapEntry
  | [], _ => []
  | x :: r, i => { key := sg x, val := .bool true, born := i } :: entsF r (i + 1)
theorem entsF_len (s : List (Int × Int)) (i : Nat) : (entsF s i).length = s.length := by
  induction s generalizing i with
  | nil => rfl
  | cons x r ih => simp [entsF, ih]
theorem entsF_snoc (s : List (Int × Int)) (x : Int × Int) (i : Nat) : entsF (s ++ [x]) i = entsF s i ++ [{ key := sg x, val := .bool true, born := i + s.length }] := by
  induction s generalizing i with
  | nil => simp [entsF]
  | cons y r ih => simp only [List.cons_append, entsF, ih, List.length_cons]; congr 4; omega
theorem run_find25 (x : Int × Int) (s : List (Int × Int)) (i j : Nat) (w : World) :
    ∃ r, (Instr.findAsking 25 (sg x) (entsF s i) j).run Try.prog w = .ok r w ∧ ((x ∈ s ∧ ∃ q, r = some (q, .bool true)) ∨ (x ∉ s ∧ r = none)) := by
  induction s generalizing i j with
  | nil => exact ⟨none, by simp [Instr.findAsking, entsF], .inr ⟨by simp, rfl⟩⟩
  | cons y r ih =>
    obtain ⟨q, hq, hr⟩ := ih (i + 1) (j + 1)
    have e : (Instr.findAsking 25 (sg x) (entsF (y :: r) i) j).run Try.prog w = if x = y then .ok (some (j, .bool true)) w else (Instr.findAsking 25 (sg x) (entsF r (i + 1)) (j + 1)).run Try.prog w := by
      obtain ⟨x1, x2⟩ := x
      obtain ⟨y1, y2⟩ := y
      simp only [Instr.findAsking, entsF, Op.equal, Op.maxDepth, Sem.run_bind, eq25, Result.andThen_ok, Prod.mk.injEq]
      by_cases h1 : x1 = y1 <;> by_cases h2 : x2 = y2 <;> simp [h1, h2]
    rw [e]
    by_cases hxy : x = y
    · exact ⟨_, if_pos hxy, .inl ⟨by simp [hxy], _, rfl⟩⟩
    · refine ⟨q, by rw [if_neg hxy]; exact hq, ?_⟩
      rcases hr with ⟨h, h'⟩ | ⟨h, h'⟩
      · exact .inl ⟨List.mem_cons_of_mem _ h, h'⟩
      · exact .inr ⟨by simp [hxy, h], h'⟩
theorem run_findKey25 (x : Int × Int) (s : List (Int × Int)) (w : World) :
    ∃ r, (Instr.findKey 25 (sg x) (entsF s 0)).run Try.prog w = .ok r w ∧ ((x ∈ s ∧ ∃ q, r = some (q, .bool true)) ∨ (x ∉ s ∧ r = none)) := by
  cases s with
  | nil => exact ⟨none, by simp [Instr.findKey, entsF, Instr.findNow, run_underlying Try.underlying25], .inr ⟨by simp, rfl⟩⟩
  | cons y r =>
    obtain ⟨q, hq, hr⟩ := run_find25 x (y :: r) 0 0 w
    refine ⟨q, ?_, hr⟩
    rw [← hq]
    simp [Instr.findKey, entsF, Instr.findNow, Instr.sameNow, run_underlying Try.underlying25]

/-- 'm[x]' -/
theorem run_lookup107 {w : World} {m c : Nat} {s : List (Int × Int)} (h : Mp w m (entsF s 0).toArray c) (x : Int × Int) :
    (Instr.lookup 107 (.map (some m)) (sg x) false).run Try.prog w = .ok (.bool (decide (x ∈ s))) w := by
  obtain ⟨r, hr, hc⟩ := run_findKey25 x s w
  have hz : (zeroValue 4).run Try.prog w = .ok (.bool false) w := by kernel_rfl
  unfold Mp at h
  simp only [Instr.lookup, Sem.run_bind, run_underlying Try.underlying107, Result.andThen_ok, run_getObj_map _ _ _ _ h, Sem.run_pure, checkKey25, hr]
  rcases hc with ⟨hm, q, rfl⟩ | ⟨hm, rfl⟩
  · simp [hm]
  · simp [hm, hz]
/-- 'm[x] = true' at a key that is not there -/
theorem run_update107 {w : World} {m : Nat} {s : List (Int × Int)} (h : Mp w m (entsF s 0).toArray s.length) (x : Int × Int) (hx : x ∉ s) :
    (Instr.mapUpdate 107 (.map (some m)) (sg x) (.bool true)).run Try.prog w = .ok () { w with heap := w.heap.setIfInBounds m (.map (entsF (s ++ [x]) 0).toArray (s ++ [x]).length) } := by
  obtain ⟨r, hr, hc⟩ := run_findKey25 x s w
  unfold Mp at h
  simp only [Instr.mapUpdate, Sem.run_bind, run_underlying Try.underlying107, Result.andThen_ok, run_getObj_map _ _ _ _ h, checkKey25, hr]
  rcases hc with ⟨hm, q, rfl⟩ | ⟨hm, rfl⟩
  · exact absurd hm hx
  · simp [setObj, Sem.run, h, entsF_snoc]

theorem update107 {w : World} {m : Nat} {s : List (Int × Int)} (h : Mp w m (entsF s 0).toArray s.length) (x : Int × Int) (hx : x ∉ s) :
    ∃ wB, (Instr.mapUpdate 107 (.map (some m)) (sg x) (.bool true)).run Try.prog w = .ok () wB ∧ Mp wB m (entsF (s ++ [x]) 0).toArray (s ++ [x]).length ∧ Ext (fun b => b = m) w wB :=
  ⟨_, run_update107 h x hx, Mp.set w m _ _ h.lt, (Ext.refl (fun b => b = m) w).setMap (m := m) (fun _ => rfl) _⟩

/-- the row of what was signed -/
def flat : List (Int × Int) → List Value
  | [] => []
  | x :: r => .int .i64 x.1 :: .int .i64 x.2 :: flat r
theorem flat_len (s : List (Int × Int)) : (flat s).length = s.length * 2 := by
  induction s with
  | nil => rfl
  | cons x r ih => simp only [flat, List.length_cons, ih]; omega
theorem flat_snoc (s : List (Int × Int)) (x : Int × Int) : flat (s ++ [x]) = flat s ++ [.int .i64 x.1, .int .i64 x.2] := by
  induction s with
  | nil => rfl
  | cons y r ih => simp [flat, ih]

/-- a ledger at block p, all of whose blocks lie in 'own': the signatures s in the order in which they came -/
def LedgerAt (own : Nat → Prop) (w : World) (p : Nat) (s : List (Int × Int)) : Prop :=
  ∃ (m : Nat) (v : Value), own p ∧ own m ∧ (∀ g, v.ownBlock = some g → own g) ∧ Blk w p 109 #[v, .map (some m)] ∧ Mp w m (entsF s 0).toArray s.length ∧ w.ownsRow 0 25 2 v s.length (flat s)
theorem LedgerAt.ext {own own' : Nat → Prop} {w w' : World} {p : Nat} {s : List (Int × Int)} (h : LedgerAt own w p s) (hb : Ext own' w w') (hd : ∀ b, own b → ¬ own' b) : LedgerAt own w' p s := by
  obtain ⟨m, v, h1, h2, h3, h4, h5, h6⟩ := h
  refine ⟨m, v, h1, h2, h3, h4.ext hb (hd _ h1), h5.ext hb (hd _ h2), h6.1, ?_⟩
  rcases h6.2 with h | ⟨g, cap, cur, hv, hg, hh, r⟩
  · exact .inl h
  · exact .inr ⟨g, cap, cur, hv, hg, Blk.ext (t := 25) hh hb (hd _ (h3 g (by rw [hv]; rfl))), r⟩
theorem LedgerAt.later {own : Nat → Prop} {w w' : World} {p : Nat} {s : List (Int × Int)} (h : LedgerAt own w p s) (hb : B w w') : LedgerAt own w' p s := h.ext (Ext.of_B (own := fun _ => False) hb) (fun _ _ => id)
theorem LedgerAt.mono {own own' : Nat → Prop} {w : World} {p : Nat} {s : List (Int × Int)} (h : LedgerAt own w p s) (hs : ∀ b, own b → own' b) : LedgerAt own' w p s := by
  obtain ⟨m, v, h1, h2, h3, r⟩ := h
  exact ⟨m, v, hs _ h1, hs _ h2, fun g hg => hs _ (h3 g hg), r⟩

set_option maxHeartbeats 400000 in
theorem newLedger23 (w : World) : Calls Try.prog 23 #[] w fun e w' => e = .returned (.pointer (some ⟨w.heap.size + 1, 0, none⟩)) ∧ w' = (w.alloc (.map #[] 0)).alloc (.cells #[.slice none 0 0, .map (some w.heap.size)] 109) := by
  have hmm := @run_makeMap Try.prog
  go_enter Try.func23, Try.ntmps23
  go_wp2
  go_ret
  exact ⟨rfl, rfl⟩
set_option maxHeartbeats 400000 in
theorem none109 {own : Nat → Prop} {w : World} {p : Nat} {s : List (Int × Int)} (h : LedgerAt own w p s) : Calls Try.prog 109 #[.pointer (some ⟨p, 0, none⟩)] w fun e w' => e = .returned (.bool false) ∧ w = w' := by
  obtain ⟨m, v, h1, h2, h3, h4, h5, h6⟩ := h
  have c1 := h4.cell 1
  simp at c1
  have q1 : ∀ w, (binOp .eql 107 (.map (some m)) (.map none)).run Try.prog w = .ok (.bool false) w := fun w => by kernel_rfl
  clear h4 h5 h6
  go_enter Try.func109, Try.ntmps109
  go_wp2
  go_ret
  exact ⟨rfl, rfl⟩

theorem LedgerAt.new (w : World) : LedgerAt (fun b => b = w.heap.size ∨ b = w.heap.size + 1) ((w.alloc (.map #[] 0)).alloc (.cells #[.slice none 0 0, .map (some w.heap.size)] 109)) (w.heap.size + 1) [] := by
  refine ⟨w.heap.size, .slice none 0 0, .inr rfl, .inl rfl, fun g hg => by simp [Value.ownBlock] at hg, ?_, ?_, rfl, .inl ⟨rfl, rfl⟩⟩
  · have := Blk.new (w.alloc (.map #[] 0)) 109 #[.slice none 0 0, .map (some w.heap.size)]
    simpa using this
  · exact (Mp.new w _ _).later (B.alloc' _ _)

/-- a fact of a world and of all later ones -/
theorem Ledger.facts {own : Nat → Prop} {w : World} {p : Nat} {s : List (Int × Int)} (h : LedgerAt own w p s) : ∃ m : Nat, ∀ w', B w w' → LedgerAt own w' p s ∧ w'.cell? ⟨p, 1, none⟩ = some (.map (some m)) ∧ ∀ x, (Instr.lookup 107 (.map (some m)) (sg x) false).run Try.prog w' = .ok (.bool (decide (x ∈ s))) w' := by
  obtain ⟨m, v, h1, h2, h3, h4, h5, h6⟩ := id h
  exact ⟨m, fun w' hb => ⟨h.later hb, by rw [(h4.later hb).cell 1]; rfl, fun x => run_lookup107 (h5.later hb) x⟩⟩

set_option maxHeartbeats 400000 in
theorem signed26 {own : Nat → Prop} {w : World} {p : Nat} {s : List (Int × Int)} (h : LedgerAt own w p s) (a b : Int) : Calls Try.prog 26 #[.pointer (some ⟨p, 0, none⟩), .agg #[.int .i64 a, .int .i64 b]] w fun e w' => e = .returned (.bool (decide ((a, b) ∈ s))) ∧ B w w' := by
  obtain ⟨m, hf⟩ := Ledger.facts h
  have l1 : ∀ w', B (w.alloc (.cells #[.int .i64 a, .int .i64 b] 25)) w' → w'.cell? ⟨p, 1, none⟩ = some (.map (some m)) := fun w' hb => (hf w' ((B.alloc' _ _).trans hb)).2.1
  have l2 : ∀ w', B (w.alloc (.cells #[.int .i64 a, .int .i64 b] 25)) w' → (Instr.lookup 107 (.map (some m)) (.agg #[.int .i64 a, .int .i64 b]) false).run Try.prog w' = .ok (.bool (decide ((a, b) ∈ s))) w' := fun w' hb => (hf w' ((B.alloc' _ _).trans hb)).2.2 (a, b)
  have l3 : ∀ w', B (w.alloc (.cells #[.int .i64 a, .int .i64 b] 25)) w' → w'.cell? ⟨w.heap.size, 0, none⟩ = some (.int .i64 a) := fun w' hb => (Own2.mk.later hb).1
  have l4 : ∀ w', B (w.alloc (.cells #[.int .i64 a, .int .i64 b] 25)) w' → w'.cell? ⟨w.heap.size, 1, none⟩ = some (.int .i64 b) := fun w' hb => (Own2.mk.later hb).2.1
  have l5 : ∀ w', B (w.alloc (.cells #[.int .i64 a, .int .i64 b] 25)) w' → LedgerAt own w' p s := fun w' hb => (hf w' ((B.alloc' _ _).trans hb)).1
  clear hf
  go_enter Try.func26, Try.ntmps26
  go_wp2
  go_region_held3 (fun w' => B (w.alloc (.cells #[.int .i64 a, .int .i64 b] 25)) w') (first | assumption | exact (Below.refl _ _).drew) (first | (go_at_call 109; refine (none109 (l5 _ (by assumption))).mono ?_; rintro e wn ⟨rfl, rfl⟩))
  go_wp2
  go_ret
  exact ⟨by simp, (B.alloc' _ _).trans ‹_›⟩

/-- what Sign answers, and what is signed behind it -/
def sgnE (a b : Int) : Int := if a < 0 ∨ 21 ≤ a then 20 else if b < 1 then 1 else 0
def sgnV (a b : Int) : Int × Int := if sgnE a b = 0 then (a, b) else (0, 0)
def ins (x : Int × Int) (s : List (Int × Int)) : List (Int × Int) := if x ∈ s then s else s ++ [x]
def sgnS (a b : Int) (s : List (Int × Int)) : List (Int × Int) := if sgnE a b = 0 then ins (a, b) s else s
def SignPost (own : Nat → Prop) (w : World) (p : Nat) (a b : Int) (s : List (Int × Int)) (e : Ending) (w' : World) : Prop :=
  e = .returned (.tuple #[.agg #[.int .i64 (sgnV a b).1, .int .i64 (sgnV a b).2], .int .i64 (sgnE a b)]) ∧ LedgerAt (fun x => own x ∨ w.heap.size ≤ x) w' p (sgnS a b s) ∧ Ext own w w'
theorem SignPost.same {own : Nat → Prop} {w w' : World} {p : Nat} {a b c d f : Int} {s : List (Int × Int)} (h : LedgerAt own w p s) (hb : B w w') (h1 : sgnV a b = (c, d)) (h2 : sgnE a b = f) (h3 : sgnS a b s = s) :
    SignPost own w p a b s (.returned (.tuple #[.agg #[.int .i64 c, .int .i64 d], .int .i64 f])) w' :=
  ⟨by rw [h1, h2], by rw [h3]; exact (h.later hb).mono (fun _ => .inl), Ext.of_B hb⟩

theorem info25 : (Try.prog.info? 25).map (fun i => (i.zero, i.size, i.bytes)) = some (some (.agg #[.int .i64 0, .int .i64 0]), 2, 16) := by kernel_rfl

set_option maxHeartbeats 400000 in
theorem sign25_key {own : Nat → Prop} {w : World} {p : Nat} {s : List (Int × Int)} (h : LedgerAt own w p s) (a b : Int) (ha : a < 0 ∨ 21 ≤ a) : Calls Try.prog 25 #[.pointer (some ⟨p, 0, none⟩), .int .i64 a, .int .i64 b] w (SignPost own w p a b s) := by
  have hE : sgnE a b = 20 := if_pos ha
  have E := Lib.hid (SignPost.same (a := a) (b := b) (c := 0) (d := 0) (f := 20) h (w' := (w.alloc (.cells #[.int .i64 0, .int .i64 0] 25))) (B.alloc' _ _) (by simp [sgnV, hE]) hE (by simp [sgnS, hE]))
  have hn := h.later (B.alloc' w (.cells #[.int .i64 0, .int .i64 0] 25))
  clear h hE
  rcases ha with ha | ha
  · go_enter Try.func25, Try.ntmps25
    go_wp2_with (first | (go_at_call 109; refine (none109 hn).mono ?_; rintro e wn ⟨rfl, rfl⟩))
    exact bodyPost_ret (v := .tuple #[.agg #[.int .i64 0, .int .i64 0], .int .i64 20]) (by simp [results, Try.results25, go_sem]) rfl E.out
  · have ha' : ¬ a < 0 := by omega
    go_enter Try.func25, Try.ntmps25
    go_wp2_with (first | (go_at_call 109; refine (none109 hn).mono ?_; rintro e wn ⟨rfl, rfl⟩))
    exact bodyPost_ret (v := .tuple #[.agg #[.int .i64 0, .int .i64 0], .int .i64 20]) (by simp [results, Try.results25, go_sem]) rfl E.out
set_option maxHeartbeats 400000 in
theorem sign25_dig {own : Nat → Prop} {w : World} {p : Nat} {s : List (Int × Int)} (h : LedgerAt own w p s) (a b : Int) (ha : 0 ≤ a ∧ a < 21) (hb : b < 1) : Calls Try.prog 25 #[.pointer (some ⟨p, 0, none⟩), .int .i64 a, .int .i64 b] w (SignPost own w p a b s) := by
  have hE : sgnE a b = 1 := by unfold sgnE; rw [if_neg (by omega), if_pos hb]
  have E := Lib.hid (SignPost.same (a := a) (b := b) (c := 0) (d := 0) (f := 1) h (w' := (w.alloc (.cells #[.int .i64 0, .int .i64 0] 25))) (B.alloc' _ _) (by simp [sgnV, hE]) hE (by simp [sgnS, hE]))
  have hn := h.later (B.alloc' w (.cells #[.int .i64 0, .int .i64 0] 25))
  clear h hE
  obtain ⟨ha1, ha2⟩ := ha
  go_enter Try.func25, Try.ntmps25
  go_wp2_with (first | (go_at_call 109; refine (none109 hn).mono ?_; rintro e wn ⟨rfl, rfl⟩))
  exact bodyPost_ret (v := .tuple #[.agg #[.int .i64 0, .int .i64 0], .int .i64 1]) (by simp [results, Try.results25, go_sem]) rfl E.out
set_option maxHeartbeats 400000 in
theorem sign25_had {own : Nat → Prop} {w : World} {p : Nat} {s : List (Int × Int)} (h : LedgerAt own w p s) (a b : Int) (ha : 0 ≤ a ∧ a < 21) (hb : 1 ≤ b) (hx : (a, b) ∈ s) : Calls Try.prog 25 #[.pointer (some ⟨p, 0, none⟩), .int .i64 a, .int .i64 b] w (SignPost own w p a b s) := by
  have hE : sgnE a b = 0 := by unfold sgnE; rw [if_neg (by omega), if_neg (by omega)]
  have hB : B w ((w.alloc (.cells #[.int .i64 0, .int .i64 0] 25)).alloc (.cells #[.int .i64 a, .int .i64 b] 25)) := (B.alloc' _ _).trans (B.alloc' _ _)
  have hn := h.later (B.alloc' w (.cells #[.int .i64 0, .int .i64 0] 25))
  have E := Lib.hid (fun (w' : World) (hb : B w w') => SignPost.same (a := a) (b := b) (c := a) (d := b) (f := 0) h hb (by simp [sgnV, hE]) hE (by simp [sgnS, hE, ins, hx]))
  obtain ⟨m, hf⟩ := Ledger.facts h
  have l1 : ∀ w', B ((w.alloc (.cells #[.int .i64 0, .int .i64 0] 25)).alloc (.cells #[.int .i64 a, .int .i64 b] 25)) w' → w'.cell? ⟨p, 1, none⟩ = some (.map (some m)) := fun w' hb => (hf w' (hB.trans hb)).2.1
  have l2 : ∀ w', B ((w.alloc (.cells #[.int .i64 0, .int .i64 0] 25)).alloc (.cells #[.int .i64 a, .int .i64 b] 25)) w' → (Instr.lookup 107 (.map (some m)) (.agg #[.int .i64 a, .int .i64 b]) false).run Try.prog w' = .ok (.bool true) w' := fun w' hb => by
    have := (hf w' (hB.trans hb)).2.2 (a, b)
    simpa [hx] using this
  have l3 : ∀ w', B ((w.alloc (.cells #[.int .i64 0, .int .i64 0] 25)).alloc (.cells #[.int .i64 a, .int .i64 b] 25)) w' → w'.cell? ⟨w.heap.size + 1, 0, none⟩ = some (.int .i64 a) := fun w' hb => by have := (Own2.mk.later hb).1; simpa using this
  have l4 : ∀ w', B ((w.alloc (.cells #[.int .i64 0, .int .i64 0] 25)).alloc (.cells #[.int .i64 a, .int .i64 b] 25)) w' → w'.cell? ⟨w.heap.size + 1, 1, none⟩ = some (.int .i64 b) := fun w' hb => by have := (Own2.mk.later hb).2.1; simpa using this
  clear hf h hE hx
  obtain ⟨ha1, ha2⟩ := ha
  go_enter Try.func25, Try.ntmps25
  go_wp2_with (first | (go_at_call 109; refine (none109 hn).mono ?_; rintro e wn ⟨rfl, rfl⟩))
  go_region_held3 (fun w' => B ((w.alloc (.cells #[.int .i64 0, .int .i64 0] 25)).alloc (.cells #[.int .i64 a, .int .i64 b] 25)) w') (first | assumption | exact (Below.refl _ _).drew) (fail)
  go_wp2
  exact bodyPost_ret (v := .tuple #[.agg #[.int .i64 a, .int .i64 b], .int .i64 0]) (by simp [results, Try.results25, go_sem]) rfl (E.out _ ((B.alloc' _ _).trans (B.alloc' _ _)).drew)

theorem cell_two_new (w : World) (x y : Value) (t : TypeId) : ∀ j u, [x, y][j]? = some u → (w.alloc (.cells #[x, y] t)).drew.cell? ((⟨w.heap.size, 0, none⟩ : Addr).add j) = some u := by
  intro j u h
  match j, h with
  | 0, h => simp [Addr.add] at h ⊢; exact h
  | 1, h => simp [Addr.add] at h ⊢; exact h
  | j + 2, h => simp at h
set_option maxHeartbeats 1000000 in
theorem sign25_new {own : Nat → Prop} {w : World} {p : Nat} {s : List (Int × Int)} (h : LedgerAt own w p s) (a b : Int) (ha : 0 ≤ a ∧ a < 21) (hb : 1 ≤ b) (hx : (a, b) ∉ s) (hroom : (s.length + 1) * 16 ≤ 140737488355328) : Calls Try.prog 25 #[.pointer (some ⟨p, 0, none⟩), .int .i64 a, .int .i64 b] w (SignPost own w p a b s) := by
  have hE : sgnE a b = 0 := by unfold sgnE; rw [if_neg (by omega), if_neg (by omega)]
  have E1 := Lib.hid (show sgnV a b = (a, b) by simp [sgnV, hE])
  have E2 := Lib.hid (show sgnS a b s = s ++ [(a, b)] by simp [sgnS, hE, ins, hx])
  have E3 := Lib.hid hE
  have hB : B w ((w.alloc (.cells #[.int .i64 0, .int .i64 0] 25)).alloc (.cells #[.int .i64 a, .int .i64 b] 25)) := (B.alloc' _ _).trans (B.alloc' _ _)
  have hn := h.later (B.alloc' w (.cells #[.int .i64 0, .int .i64 0] 25))
  obtain ⟨m, hf⟩ := Ledger.facts h
  have l1 : ∀ w', B ((w.alloc (.cells #[.int .i64 0, .int .i64 0] 25)).alloc (.cells #[.int .i64 a, .int .i64 b] 25)) w' → w'.cell? ⟨p, 1, none⟩ = some (.map (some m)) := fun w' hb => (hf w' (hB.trans hb)).2.1
  have l2 : ∀ w', B ((w.alloc (.cells #[.int .i64 0, .int .i64 0] 25)).alloc (.cells #[.int .i64 a, .int .i64 b] 25)) w' → (Instr.lookup 107 (.map (some m)) (.agg #[.int .i64 a, .int .i64 b]) false).run Try.prog w' = .ok (.bool false) w' := fun w' hb => by
    have := (hf w' (hB.trans hb)).2.2 (a, b)
    simpa [hx] using this
  have l3 : ∀ w', B ((w.alloc (.cells #[.int .i64 0, .int .i64 0] 25)).alloc (.cells #[.int .i64 a, .int .i64 b] 25)) w' → w'.cell? ⟨w.heap.size + 1, 0, none⟩ = some (.int .i64 a) := fun w' hb => by have := (Own2.mk.later hb).1; simpa using this
  have l4 : ∀ w', B ((w.alloc (.cells #[.int .i64 0, .int .i64 0] 25)).alloc (.cells #[.int .i64 a, .int .i64 b] 25)) w' → w'.cell? ⟨w.heap.size + 1, 1, none⟩ = some (.int .i64 b) := fun w' hb => by have := (Own2.mk.later hb).2.1; simpa using this
  clear hf hE
  have hxx := Lib.hid hx
  clear hx
  obtain ⟨ha1, ha2⟩ := ha
  go_enter Try.func25, Try.ntmps25
  go_wp2_with (first | (go_at_call 109; refine (none109 hn).mono ?_; rintro e wn ⟨rfl, rfl⟩))
  go_region_held3 (fun w' => B ((w.alloc (.cells #[.int .i64 0, .int .i64 0] 25)).alloc (.cells #[.int .i64 a, .int .i64 b] 25)) w') (first | assumption | exact (Below.refl _ _).drew) (fail)
  clear l1 l2 l3 l4
  go_wp2
  -- the second stretch: the map's store, the append
  have hA : B w ((w.alloc (.cells #[.int .i64 0, .int .i64 0] 25)).alloc (.cells #[.int .i64 a, .int .i64 b] 25)).drew := hB.drew
  have oR : Own2 ((w.alloc (.cells #[.int .i64 0, .int .i64 0] 25)).alloc (.cells #[.int .i64 a, .int .i64 b] 25)).drew w.heap.size (.int .i64 0) (.int .i64 0) := Own2.mk.later ((Below.refl _ _).alloc (Nat.le_refl _) _).drew
  have oS : Own2 ((w.alloc (.cells #[.int .i64 0, .int .i64 0] 25)).alloc (.cells #[.int .i64 a, .int .i64 b] 25)).drew (w.heap.size + 1) (.int .i64 a) (.int .i64 b) := by
    have := (Own2.mk (w := w.alloc (.cells #[.int .i64 0, .int .i64 0] 25)) (x := .int .i64 a) (y := .int .i64 b) (T := 25)).later (Below.refl _ _).drew
    simpa using this
  obtain ⟨m', v, k1, k2, k3, k4, k5, k6⟩ := h
  have rlt := fun g => row_lt k6 (g := g)
  have plt := k4.lt
  have mlt := k5.lt
  have k4 := k4.later hA
  have k5 := k5.later hA
  have k6 := row_later k6 hA
  clear hn hB ‹B ((w.alloc _).alloc _) _›
  generalize ((w.alloc (.cells #[.int .i64 0, .int .i64 0] 25)).alloc (.cells #[.int .i64 a, .int .i64 b] 25)).drew = wA at *
  obtain ⟨wB, hup, k5', hx1⟩ := update107 (w := wA.drew) k5 (a, b) hxx.out
  have c1 := k4.cell 1
  simp at c1
  obtain ⟨d1, d2, d3, d4, d5⟩ := id oS
  have mR : ¬ w.heap.size = m' := k5.no oR.1
  have mS : ¬ w.heap.size + 1 = m' := k5.no oS.1
  have mP : ¬ p = m' := fun e => k5.ne k4 e.symm
  go_region
  go_wp2
  have hx0 : Ext own w wB := ((Ext.of_B (own := own) hA).drew).trans hx1 (fun x hx e => by subst e; exact k2)
  have oR := Own2.ext (w := wA.drew) oR hx1 mR
  have oS := Own2.ext (w := wA.drew) oS hx1 mS
  have k4 := Blk.ext (w := wA.drew) k4 hx1 mP
  have rM : ∀ g, v.ownBlock = some g → ¬ g = m' := fun g hg e => by
    subst e
    rcases k6.2 with ⟨rfl, _⟩ | ⟨g', cap, cur, rfl, _, hh, _⟩
    · simp [Value.ownBlock] at hg
    · have : g' = g := by simpa [Value.ownBlock] using hg
      subst this
      exact k5.ne (t := 25) hh rfl
  have k6 := row_ext (w := wA.drew) k6 hx1 rM
  clear c1 d1 d2 d3 d4 d5 hup
  -- the append
  obtain ⟨i0, hi, hz0, hz1, hz2⟩ := info_parts info25
  have kx4 := (k4.alloc (.cells #[.int .i64 a, .int .i64 b] 25)).drew
  have hpl := k4.lt
  obtain ⟨v', wC, hrun, q6, hg, _, hv⟩ := run_append_own_at (P := Try.prog) (wB.alloc (.cells #[.int .i64 a, .int .i64 b] 25)).drew 0 22 22 25 i0 (.agg #[.int .i64 0, .int .i64 0]) 2 16 Try.underlying22 hi hz0 hz1 hz2 rfl (by omega) v s.length (flat s) (row_later k6 ((B.alloc' _ _).drew)) ⟨wB.heap.size, 0, none⟩ 1 1 [.int .i64 a, .int .i64 b] rfl (cell_two_new _ _ _ _) (by simp [Value.oneCell']) (by unfold maxLen; omega) hroom (by omega)
  obtain ⟨gn, cap', rfl, _, hgl⟩ := q6.form (by omega)
  obtain ⟨d1, d2, d3, d4, d5⟩ := id oS
  have c0 := k4.cell 0
  simp at c0
  have q4 := kx4.grown hg (fun e => row_ne k6 k4 (by decide) e.symm)
  have p0 := q4.cell 0
  have pf := q4.frozen 0
  simp at p0
  go_region_law (refine step_append_run rfl (.tmp 44) (.tmp 46) 22 rfl rfl rfl hrun ?_)
  all_goals
    have oR' := (((oR.alloc (.cells #[.int .i64 a, .int .i64 b] 25)).later (Below.refl _ _).drew).grown hg (fun e => by have := rlt _ e.symm; omega)).other (b' := p) (by omega) 0 (.slice (some ⟨gn, 0, none⟩) (s.length + 1) cap')
    have oS' := (((oS.alloc (.cells #[.int .i64 a, .int .i64 b] 25)).later (Below.refl _ _).drew).grown hg (fun e => by have := rlt _ e.symm; omega)).other (b' := p) (by omega) 0 (.slice (some ⟨gn, 0, none⟩) (s.length + 1) cap')
    have q4' := q4.set_ 0 (.slice (some ⟨gn, 0, none⟩) (s.length + 1) cap')
    have hxF := ((((hx0.alloc (.cells #[.int .i64 a, .int .i64 b] 25)).drew).grown hg (fun g e _ => k3 g e)).set (p := ⟨p, 0, none⟩) (fun _ => k1) (.slice (some ⟨gn, 0, none⟩) (s.length + 1) cap'))
    have q5' : Mp (wC.setCell ⟨p, 0, none⟩ (.slice (some ⟨gn, 0, none⟩) (s.length + 1) cap')) m' (entsF (s ++ [(a, b)]) 0).toArray (s ++ [(a, b)]).length := by
      refine Mp.ext (Mp.ext (Mp.later k5' (B.alloc' _ (.cells #[.int .i64 a, .int .i64 b] 25)).drew) ((Ext.refl (fun g => some g = v.ownBlock) _).grown hg (fun g e _ => e.symm)) (fun e => rM _ e.symm rfl)) ((Ext.refl (fun g => g = p) _).set (p := ⟨p, 0, none⟩) (fun _ => rfl) _) (fun e => mP e.symm)
    have q6' := row_ext q6 ((Ext.refl (fun g => g = p) _).set (p := ⟨p, 0, none⟩) (fun _ => rfl) (.slice (some ⟨gn, 0, none⟩) (s.length + 1) cap')) (fun g hg' e => row_ne q6 q4 (by decide) (by rw [hg', e]))
    have hgn : own gn ∨ w.heap.size ≤ gn := by
      rcases hv with e | e
      · exact .inl (k3 gn (by rw [← e]; rfl))
      · right
        have e1 : gn = ((wB.alloc (.cells #[.int .i64 a, .int .i64 b] 25)).drew).heap.size := by simpa [Value.ownBlock] using e
        have := hx0.size
        simp at e1
        omega
    have hgs : gn ≠ w.heap.size := by
      rcases hv with e | e
      · have := rlt gn (by rw [← e]; rfl); omega
      · have e1 : gn = ((wB.alloc (.cells #[.int .i64 a, .int .i64 b] 25)).drew).heap.size := by simpa [Value.ownBlock] using e
        have := hx0.size
        simp at e1
        omega
    have hvb : ∀ g, (Value.slice (some ⟨gn, 0, none⟩) (s.length + 1) cap').ownBlock = some g → g = gn := fun g h => by simpa [Value.ownBlock] using h.symm
    have hL : LedgerAt (fun x => x ≠ w.heap.size ∧ (own x ∨ w.heap.size ≤ x)) (wC.setCell ⟨p, 0, none⟩ (.slice (some ⟨gn, 0, none⟩) (s.length + 1) cap')) p (s ++ [(a, b)]) :=
      ⟨m', .slice (some ⟨gn, 0, none⟩) (s.length + 1) cap', ⟨by omega, .inl k1⟩, ⟨by omega, .inl k2⟩, fun g hg' => by rw [hvb g hg']; exact ⟨hgs, hgn⟩, by simpa using q4', by simpa using q5', by simpa [flat_snoc] using q6'⟩
    obtain ⟨d1, d2, d3, d4, d5⟩ := id oS'
    obtain ⟨e1, e2, e3, e4, e5⟩ := id oR'
    clear c0 p0 pf hrun
    go_wp2
    have hE := ((Ext.refl (fun x => x = w.heap.size) (wC.setCell ⟨p, 0, none⟩ (.slice (some ⟨gn, 0, none⟩) (s.length + 1) cap'))).set (p := ⟨w.heap.size, 0, none⟩) (fun _ => rfl) (.int .i64 a)).set (p := ⟨w.heap.size, 1, none⟩) (fun _ => rfl) (.int .i64 b)
    exact bodyPost_ret (v := .tuple #[.agg #[.int .i64 a, .int .i64 b], .int .i64 0]) (by simp [results, Try.results25, go_sem, *]) rfl
      ⟨by rw [E1.out, E3.out], by rw [E2.out]; exact (hL.ext hE (fun x hx e => hx.1 e)).mono (fun _ hx => hx.2), hxF.trans hE (fun x hx e => by omega)⟩

theorem sign25 {own : Nat → Prop} {w : World} {p : Nat} {s : List (Int × Int)} (h : LedgerAt own w p s) (a b : Int) (hroom : (s.length + 1) * 16 ≤ 140737488355328) : Calls Try.prog 25 #[.pointer (some ⟨p, 0, none⟩), .int .i64 a, .int .i64 b] w (SignPost own w p a b s) := by
  by_cases ha : a < 0 ∨ 21 ≤ a
  · exact sign25_key h a b ha
  · by_cases hb : b < 1
    · exact sign25_dig h a b (by omega) hb
    · by_cases hx : (a, b) ∈ s
      · exact sign25_had h a b (by omega) (by omega) hx
      · exact sign25_new h a b (by omega) (by omega) hx hroom
end Go.Proofs.Ythgpkbhilkdckaa
