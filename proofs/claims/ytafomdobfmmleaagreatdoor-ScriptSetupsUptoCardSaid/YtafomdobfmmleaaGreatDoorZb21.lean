/- Lemmas and contracts, part 21. -/
import Derived.Test.YtafomdobfmmleaaGreatDoorZb20
import Derived.Shelf.Strings.SplitShaped
import Derived.Deep.Light
/- strings.Split where the library's variables have their types, laid at this program, in plain words, by the kit's tools. -/
namespace Go.Proofs
open Go.Shelf
def Tryz.laysM146_ren : Go.Shelf.Ren := ⟨fun | 146 => 34 | 221 => 64 | 268 => 102 | 138 => 103 | 143 => 104 | 195 => 142 | 197 => 143 | 218 => 144 | 219 => 137 | 260 => 199 | 217 => 191 | 225 => 192 | 224 => 193 | 267 => 194 | 266 => 251 | 314 => 252 | n => n, fun | 9 => 9 | 31 => 78 | 3 => 3 | 4 => 4 | 0 => 0 | 105 => 201 | 21 => 21 | 5 => 5 | 46 => 91 | 119 => 311 | 139 => 314 | 138 => 313 | 146 => 305 | 51 => 304 | n => n, fun | 1 => 0 | 3 => 4 | 4 => 5 | n => n⟩
theorem Tryz.laysM146 : Go.Proofs.LaysM.n146 Tryz.prog Tryz.laysM146_ren := {
  mixed := by kernel_rfl
  f138 := Tryz.func103.trans (congrArg some (by kernel_rfl))
  f143 := Tryz.func104.trans (congrArg some (by kernel_rfl))
  f146 := Tryz.func34.trans (congrArg some (by kernel_rfl))
  f195 := Tryz.func142.trans (congrArg some (by kernel_rfl))
  f197 := Tryz.func143.trans (congrArg some (by kernel_rfl))
  f217 := Tryz.func191.trans (congrArg some (by kernel_rfl))
  f218 := Tryz.func144.trans (congrArg some (by kernel_rfl))
  f219 := Tryz.func137.trans (congrArg some (by kernel_rfl))
  f221 := Tryz.func64.trans (congrArg some (by kernel_rfl))
  f224 := Tryz.func193.trans (congrArg some (by kernel_rfl))
  f225 := Tryz.func192.trans (congrArg some (by kernel_rfl))
  f260 := Tryz.func199.trans (congrArg some (by kernel_rfl))
  f266 := Tryz.func251.trans (congrArg some (by kernel_rfl))
  f267 := Tryz.func194.trans (congrArg some (by kernel_rfl))
  f268 := Tryz.func102.trans (congrArg some (by kernel_rfl))
  f314 := Tryz.func252.trans (congrArg some (by kernel_rfl))
  t0 := Tryz.underlying0
  a0 := Tryz.isAgg0
  z0 := Tryz.sizeOf0
  v0 := Tryz.zeroValue0
  t3 := Tryz.underlying3
  a3 := Tryz.isAgg3
  z3 := Tryz.sizeOf3
  v3 := Tryz.zeroValue3
  t4 := Tryz.underlying4
  a4 := Tryz.isAgg4
  z4 := Tryz.sizeOf4
  v4 := Tryz.zeroValue4
  t5 := Tryz.underlying5
  a5 := Tryz.isAgg5
  z5 := Tryz.sizeOf5
  v5 := Tryz.zeroValue5
  t9 := Tryz.underlying9
  a9 := Tryz.isAgg9
  z9 := Tryz.sizeOf9
  v9 := Tryz.zeroValue9
  t21 := Tryz.underlying21
  a21 := Tryz.isAgg21
  z21 := Tryz.sizeOf21
  v21 := Tryz.zeroValue21
  t31 := Tryz.underlying78
  a31 := Tryz.isAgg78
  z31 := Tryz.sizeOf78
  v31 := Tryz.zeroValue78
  t46 := Tryz.underlying91
  a46 := Tryz.isAgg91
  z46 := Tryz.sizeOf91
  v46 := Tryz.zeroValue91
  t51 := Tryz.underlying304
  a51 := Tryz.isAgg304
  z51 := Tryz.sizeOf304
  v51 := Tryz.zeroValue304
  t105 := Tryz.underlying201
  a105 := Tryz.isAgg201
  z105 := Tryz.sizeOf201
  v105 := Tryz.zeroValue201
  t119 := Tryz.underlying311
  a119 := Tryz.isAgg311
  z119 := Tryz.sizeOf311
  t138 := Tryz.underlying313
  a138 := Tryz.isAgg313
  z138 := Tryz.sizeOf313
  v138 := Tryz.zeroValue313
  t139 := Tryz.underlying314
  a139 := Tryz.isAgg314
  z139 := Tryz.sizeOf314
  v139 := Tryz.zeroValue314
  t146 := Tryz.underlying305
  a146 := Tryz.isAgg305
  z146 := Tryz.sizeOf305
  v146 := Tryz.zeroValue305
  g1 := by kernel_rfl
  g3 := by kernel_rfl
  g4 := by kernel_rfl
  i0 := by kernel_rfl
  i3 := by kernel_rfl
  i4 := by kernel_rfl
  i5 := by kernel_rfl
  i9 := by kernel_rfl
  i21 := by kernel_rfl
  i31 := by kernel_rfl
  i46 := by kernel_rfl
  i51 := by kernel_rfl
  i105 := by kernel_rfl
  i138 := by kernel_rfl
  i139 := by kernel_rfl
  i146 := by kernel_rfl
  m1 := by kernel_rfl
  s1_3 := fun w h => Go.Proofs.cell_of_shapedOpen_int (zero := #[.int .i64 0]) (t := 3) h (of_decide_eq_true (by kernel_rfl)) (by kernel_rfl) rfl (by kernel_rfl) (by kernel_rfl) Tryz.underlying3
  m3 := by kernel_rfl
  m4 := by kernel_rfl }
end Go.Proofs

/- Lists of numbers that a call writes down; slices.Contains over numbers; which messages are signed. -/
namespace Go.Proofs.YtafomdobfmmleaaGreatDoor
open Go.RowKit Go.Deep
set_option linter.unusedVariables false

/-- numbers written down in a block read as a list -/
theorem litI {w : World} {g : Nat} {t : TypeId} (ns : List Int) (h : Blk w g t (ns.map (Value.int .i64)).toArray) (hb : ∀ n ∈ ns, -9223372036854775808 ≤ n ∧ n ≤ 9223372036854775807) (hl : ns.length ≤ 4194304) :
    (tL tI).rd (fun _ => True) w [.slice (some ⟨g, 0, none⟩) ns.length ns.length] ns := by
  refine ⟨_, _, rfl, Nat.le_refl _, by unfold maxLen; omega, fun e => (by cases e), hl, fun _ => ⟨g, 0, rfl, h.lt, trivial, fun i x hx => ⟨_, ⟨rfl, hb x (List.mem_of_getElem? hx)⟩, fun j v hj => ?_⟩⟩⟩
  cases j with
  | zero =>
    simp only [List.getElem?_cons_zero, Option.some.injEq] at hj
    subst hj
    rw [h.cell]
    simp [tI, hx]
  | succ j => simp at hj
set_option maxRecDepth 20000 in
set_option maxHeartbeats 2000000 in
theorem idxInt_c {inn : Nat → Prop} {w : World} {v : Value} {s : List Int} {x : Int} (h : (tL tI).rd inn w [v] s) :
    Calls Tryz.prog 260 #[v, .int .i64 x] w fun e w' => ∃ k : Int, e = .returned (.int .i64 k) ∧ (0 ≤ k ↔ x ∈ s) ∧ w = w' := by
  obtain ⟨A, c, e1, hs⟩ := tL.slice h
  injection e1 with e1 _
  subst e1
  have HR := Lib.hid h
  obtain ⟨l, hl0⟩ : ∃ l, s.length = l := ⟨_, rfl⟩
  have HL0 := Lib.hid hl0
  rw [hl0] at hs ⊢
  clear h hl0
  go_enter Tryz.func260, Tryz.ntmps260
  go_wp2_with fail
  go_loop [5, 8] (fun _ i => ∃ q : Nat, q ≤ l ∧ i = .int .i64 q ∧ Hid (∀ j y, j < q → s[j]? = some y → ¬ x = y)) (fun _ i => l - (intOf i).toNat)
  case atStart => exact ⟨0, Nat.zero_le _, rfl, fun j x h => by omega⟩
  case round =>
    obtain ⟨q, hq, rfl, HP⟩ := hrel
    by_cases hlt : q < l
    · obtain ⟨y, hy⟩ : ∃ y, s[q]? = some y := ⟨_, List.getElem?_eq_getElem (by have := HL0.out; omega)⟩
      obtain ⟨_, b, off, cs, rfl, ⟨rfl, _⟩, k1⟩ := tL.at HR.out hy
      have c1 := k1 0 _ rfl
      simp only [show tI.n = 1 from rfl, Nat.mul_one, Nat.add_zero] at c1
      have HS := Lib.hid hy
      have hqi : (q : Int) < l := by omega
      clear k1 hy
      by_cases e1 : x = y
      · have g : (x == y) = true := by simpa using e1
        have g' : (y == x) = true := by simpa using e1.symm
        have E := Lib.hid (show ((0 : Int) ≤ q ↔ x ∈ s) from ⟨fun _ => by rw [e1]; exact List.mem_of_getElem? HS.out, fun _ => by omega⟩)
        clear e1
        go_wp2_with fail
        go_ret
        exact ⟨_, rfl, E.out, rfl⟩
      · have g : (x == y) = false := by simpa using e1
        have g' : (y == x) = false := by simpa using fun e => e1 e.symm
        have E := Lib.hid e1
        clear e1
        go_wp2_with fail
        go_round
        case rel => exact ⟨q + 1, by omega, by go_num, fun j z hj hz => by
          by_cases e : j = q
          · rw [e, HS.out] at hz; injection hz with hz; rw [← hz]; exact E.out
          · exact HP.out j z (by omega) hz⟩
        case measure => simp [intOf]; omega
    · have hqi : ¬ (q : Int) < l := by omega
      have E := Lib.hid (show ((0 : Int) ≤ -1 ↔ x ∈ s) from by
        refine ⟨fun hx => by omega, fun hx => ?_⟩
        exfalso
        obtain ⟨j, hj⟩ := List.getElem?_of_mem hx
        have hjl : j < s.length := by
          rcases Nat.lt_or_ge j s.length with h' | h'
          · exact h'
          · rw [List.getElem?_eq_none h'] at hj; cases hj
        exact HP.out j x (by have := HL0.out; omega) hj rfl)
      go_wp2_with fail
      go_ret
      exact ⟨_, rfl, E.out, rfl⟩
theorem hasInt_c {inn : Nat → Prop} {w : World} {v : Value} {s : List Int} {x : Int} (h : (tL tI).rd inn w [v] s) :
    Calls Tryz.prog 204 #[v, .int .i64 x] w fun e w' => e = .returned (.bool (decide (x ∈ s))) ∧ w = w' := by
  have HI := Lib.hid (idxInt_c (x := x) h)
  clear h
  go_enter Tryz.func204, Tryz.ntmps204
  go_wp2_with (first | (go_at_call 260; (with_reducible refine HI.out.mono ?_); rintro e w1 ⟨k, rfl, hk, rfl⟩; rcases (show (decide (x ∈ s) = true ∧ 0 ≤ k) ∨ (decide (x ∈ s) = false ∧ ¬ 0 ≤ k) from by by_cases hx : x ∈ s <;> simp [hx] <;> simp [hx] at hk <;> omega) with ⟨hz, hk2⟩ | ⟨hz, hk2⟩; all_goals (have HZ := Lib.hid hz; clear hz hk)))
  all_goals
    go_ret
    exact ⟨by rw [HZ.out]; simp <;> omega, rfl⟩
theorem signedK_mem (k : Int) : decide (k ∈ ([2, 3, 4, 5, 6, 8, 9] : List Int)) = signedK k := by
  rw [Bool.eq_iff_iff]
  simp [signedK, or_assoc]
theorem mSigned_c {w : World} {k : Int} : Calls Tryz.prog 156 #[.int .i64 k] w fun e w' => e = .returned (.bool (signedK k)) ∧ B w w' := by
  have HI := Lib.hid (hasInt_c (x := k) (litI (w := w.alloc (.cells #[.int .i64 2, .int .i64 3, .int .i64 4, .int .i64 5, .int .i64 6, .int .i64 8, .int .i64 9] 3)) (g := w.heap.size) (t := 3) [2, 3, 4, 5, 6, 8, 9] (Blk.new w 3 _) (by simp) (by simp)))
  rw [signedK_mem] at HI
  go_enter Tryz.func156, Tryz.ntmps156
  go_wp2_with (first | (go_at_call 204; (with_reducible refine callsM (HI.out) ?_); rintro e w1 ⟨rfl, rfl⟩))
  go_ret
  exact ⟨rfl, BB.out⟩
end Go.Proofs.YtafomdobfmmleaaGreatDoor

/- request.PutBatch; the writer of package message: numbers, byte strings, signatures, batches behind its bytes. -/
namespace Go.Proofs.YtafomdobfmmleaaGreatDoor
open Go.RowKit Go.Deep
set_option linter.unusedVariables false

set_option maxRecDepth 20000 in
set_option maxHeartbeats 8000000 in
theorem putBatch_c {inn : Nat → Prop} {w : World} {u v : Value} {bs : List UInt8} {s : List SignedD} (h : (tL tSigned).rd inn w [u] s) (hb : Bs w v bs) (hl : (bs ++ batchP s).length + 100 ≤ big) :
    Calls Tryz.prog 264 #[v, u] w (Fresh w (bs ++ batchP s)) := by
  have HB := Lib.hid hb
  have HS := Lib.hid (St.nil w)
  have HC := Lib.hid (fun (w' : World) (hb : B w w') => batchE_c ((tL tSigned).later h hb))
  by_cases h0 : batchE s = 0
  · have HP := Lib.hid (fun (w' : World) (hw : B w w') => partsPut_c ((tL tSigned).later h hw) h0 (hb.later hw) (by unfold batchP at hl; rw [if_pos h0] at hl; exact hl))
    have H0 := Lib.hid (show batchP s = batchB s from by unfold batchP; rw [if_pos h0])
    rw [h0] at HC
    clear h0 hb hl h
    go_enter Tryz.func264, Tryz.ntmps264
    go_wp2_with (first
      | (go_at_call 296; (with_reducible refine callsM (HC.out _ HS.out.on.b) ?_); rintro r wn ⟨rfl, hS⟩; replace HS := Lib.hid (HS.out.on.later hS); clear hS)
      | (go_at_call 308; (with_reducible refine callsM (St.fresh HS.out.on (HP.out _ HS.out.on.b)) ?_); rintro e w1 ⟨v1, rfl, hS⟩; replace HS := Lib.hid hS; clear hS))
    go_ret
    rw [H0.out]
    exact HS.out.toFresh
  · have g0 : (batchE s != 0) = true := by simpa using h0
    have H0 := Lib.hid (show batchP s = [] from by unfold batchP; rw [if_neg h0])
    clear h0 hb hl h
    go_enter Tryz.func264, Tryz.ntmps264
    go_wp2_with (first
      | (go_at_call 296; (with_reducible refine callsM (HC.out _ HS.out.on.b) ?_); rintro r wn ⟨rfl, hS⟩; replace HS := Lib.hid (HS.out.on.later hS); clear hS)
      | (go_at_call 153; (with_reducible refine callsM (St.fresh HS.out.on (clone89 (HB.out.later HS.out.on.b))) ?_); rintro e w1 ⟨v1, rfl, hS⟩; replace HS := Lib.hid hS; clear hS))
    go_ret
    rw [H0.out, List.append_nil]
    exact HS.out.toFresh
section
variable {W w : World} {p : Nat} {v : Value} {bs : List UInt8} {X : List Asn}
end
end Go.Proofs.YtafomdobfmmleaaGreatDoor

/- What yields new bytes, as data; the writer of package message: numbers, byte strings, signatures, batches. -/
namespace Go.Proofs.YtafomdobfmmleaaGreatDoor
open Go.RowKit
set_option linter.unusedVariables false
set_option maxRecDepth 20000

theorem fresh_s [Wd] {P : Program} {f : FuncId} {ar : List D} {bs : List UInt8} (hl : bs.length ≤ big) (hcal : calleeOk P f = true) (h : ∀ w I vs, Drs I w vs ar → Calls P f vs.toArray w (Fresh w bs)) (hp : pureD.pl ar = true) : FnP P f ar (.list 1 (bs.map cByte)) := by
  refine ⟨hcal, fun w I g vs _ hd ha => (h w I vs (pureL_ok ha hp)).mono ?_⟩
  rintro e w' ⟨v, rfl, hr, hb⟩
  have hg : g = [] := List.eq_nil_of_length_eq_zero hd.len
  subst hg
  have hn : ∀ b, ¬ Owned [] [] b := fun b ⟨o, ao, p, h, _⟩ => by simp at h
  refine .inl ⟨v, fun b => I b ∨ (w.heap.size ≤ b ∧ b < w'.heap.size), [], _, [], rfl, ⟨rfl, rfl⟩, (hd.later hb).inns (fun _ h => .inl h) (fun b hb' => ?_) (fun b _ => hn b), .rd ((Bs.of_own hr hl).dr (fun g hg _ => .inr ⟨row_ge hr hg, row_lt hr hg⟩)), Ext.of_B hb, fun _ h => .inl h, fun b hb' => ?_, fun b h => .inl h, fun o p t cs _ h => by simp at h⟩
  · rcases hb' with k | k
    · have := hd.inn b k
      have := hb.size
      omega
    · exact k.2
  · rcases hb' with k | k
    · exact .inl k
    · exact .inr (.inr k.1)
theorem Drs.two_inv [Old] {I : Nat → Prop} {w : World} {cs : List Value} {d e : D} (h : Drs I w cs [d, e]) : ∃ v u, cs = [v, u] ∧ Dr I w v d ∧ Dr I w u e := by
  obtain ⟨hl, h⟩ := h
  match cs, hl with
  | [v, u], _ => exact ⟨v, u, rfl, h 0 v d rfl rfl, h 1 u e rfl rfl⟩
theorem u64_range (n : Int) : 0 ≤ IntKind.u64.wrap n ∧ IntKind.u64.wrap n < 18446744073709551616 := by
  simp only [IntKind.wrap, IntKind.signed, IntKind.bits]
  simp
  omega
theorem u64_enc (n : Int) : enc (IntKind.u64.wrap n).toNat = encI n := by
  unfold encI
  congr 2
theorem putNum_s [Wd] (bs : List UInt8) (n : Int) (hl : bs.length + 100 ≤ big) : FnP Tryz.prog 112 [.list 1 (bs.map cByte), .int .u64 (IntKind.u64.wrap n)] (.list 1 ((bs ++ encI n).map cByte)) :=
  fresh_s (by have := enc_10 (show (n % 18446744073709551616).toNat < 18446744073709551616 by omega); unfold encI; rw [List.length_append]; omega) (by kernel_rfl) (fun w I vs hv => by
    obtain ⟨v, u, rfl, h1, h2⟩ := hv.two_inv
    cases h2
    rw [← u64_enc]
    exact putN_c (h1.bs (by omega)) _ (u64_range n) (by omega)) rfl
theorem putBytes_s [Wd] (bs xs : List UInt8) (hx : xs.length ≤ 4194304) (hl : (bs ++ xs).length + 100 ≤ big) : FnP Tryz.prog 154 [.list 1 (bs.map cByte), .list 1 (xs.map cByte)] (.list 1 ((bs ++ byF xs).map cByte)) :=
  fresh_s (by have := enc_10 (show xs.length < 18446744073709551616 by omega); unfold byF; simp at hl ⊢; omega) (by kernel_rfl) (fun w I vs hv => by
    obtain ⟨v, u, rfl, h1, h2⟩ := hv.two_inv
    rw [← byF_eq]
    exact putBytes72 (h1.bs (by simp at hl; omega)) (h2.bs (by simp at hl; omega)) (by omega)) rfl
theorem signP_l (s : SignD) : (signP s).length ≤ 20 := by
  unfold signP
  split
  · rename_i h
    obtain ⟨h1, h2⟩ := signE0 h
    have e1 := enc_10 (show s.key.toNat < 18446744073709551616 by omega)
    have e2 := enc_10 (show s.digest.toNat < 18446744073709551616 by omega)
    unfold signB
    rw [List.length_append]
    omega
  · simp
theorem putSign_s [Wd] (bs : List UInt8) (x : SignD) (hl : bs.length + 100 ≤ big) : FnP Tryz.prog 263 [.list 1 (bs.map cByte), .agg (cSign x)] (.list 1 ((bs ++ signP x).map cByte)) :=
  fresh_s (by have := signP_l x; rw [List.length_append]; omega) (by kernel_rfl) (fun w I vs hv => by
    obtain ⟨v, u, rfl, h1, h2⟩ := hv.two_inv
    obtain ⟨us, rfl, k1, k2⟩ := (Vr.rd (g := []) h2).agg_inv
    obtain ⟨a, b, rfl, e1, e2⟩ := (pureL_ok k1 (by rfl)).two_inv
    cases e1
    cases e2
    exact putSign_c (h1.bs (by omega)) (by omega)) rfl
theorem putBatch_s [Wd] (bs : List UInt8) (x : List SignedD) (hx : (dL dSigned).ok x) (hl : (bs ++ batchP x).length + 100 ≤ big) : FnP Tryz.prog 264 [.list 1 (bs.map cByte), .list 9 (x.map cSigned)] (.list 1 ((bs ++ batchP x).map cByte)) :=
  fresh_s (by omega) (by kernel_rfl) (fun w I vs hv => by
    obtain ⟨v, u, rfl, h1, h2⟩ := hv.two_inv
    exact putBatch_c ((LkL LkSigned).of (.one h2) hx) (h1.bs (by simp at hl; omega)) (by omega)) rfl
/-! the writer -/
abbrev oW (bs : List UInt8) : List AO := [.cells 220 [.list 1 (bs.map cByte)]]
/-- it puts bytes behind what the writer has -/
abbrev FnW [Wd] (f : FuncId) (ar : List D) (add : List UInt8) : Prop := ∀ bs : List UInt8, (bs ++ add).length + 200 ≤ big → FnS Tryz.prog f (.ptr 0 0 :: ar) (oW bs) (fun r h => r = .tup [] ∧ h = oW (bs ++ add))
section
variable {Q : Exit → S → Prop}
theorem okWr [Wd] {f : FuncId} {ar ar' : List D} {add bs : List UInt8} {hb : List AO} {c : D → List AO → T} (hF : FnW f ar add) (hl : (bs ++ add).length + 200 ≤ big) (hv : vwP hb [0] [0] (oW bs)) (hc : Cos ar' (D.ren.rl [0] (.ptr 0 0 :: ar))) (hM : ([0].all fun o => (foot hb ar').elem o) = true) (k : (c (.tup []) (upH hb [0] (oW bs) (oW (bs ++ add)))).ok Tryz.prog Q) : (T.call f ar' hb c).ok Tryz.prog Q :=
  okCall [0] (hF bs hl) (.mk' rfl hv) hc hM k
theorem endWr [Wd] {tb : TT} {rs : List ResultVar} {ex : Exit} {s : S} {bs bs' : List UInt8} {ds : List D} (he : ex = .normal ∨ ex = .ret) (hr : resD tb s rs = some ds) (hv : vwP s.h [0] [0] (oW bs')) (hco : Co (resV ds) (.tup [])) {add : List UInt8} (hx : bs' = bs ++ add) : (T.leaf ex s).ok Tryz.prog (Lf tb rs (oW bs) (fun r h => r = .tup [] ∧ h = oW (bs ++ add))) := by
  subst hx
  exact endObj [0] he hr rfl hv ⟨⟨rfl, rfl⟩, trivial⟩ hco
end
theorem okLt' [Wd] {P : Program} {Q : Exit → S → Prop} {a b : Nat} {t f : T} (h1 : a < b → t.ok P Q) (h2 : b ≤ a → f.ok P Q) : (T.br (decide ((a : Int) < (b : Int))) t f).ok P Q :=
  ⟨fun h => h1 (by simpa using h), fun h => h2 (by simpa using h)⟩
theorem wStr_s [Wd] (x : List UInt8) (hx : x.length ≤ 4194304) : FnW 215 [.list 1 (x.map cByte)] (byF x) := by
  intro bs hl
  refine mkS 13 [] Tryz.func215 rfl (by kernel_rfl) ?_
  repeat'
    (conv => arg 2; whnf)
    first
    | refine okAsk (by kernel_rfl) ?_
    | refine okFn (putBytes_s bs x hx (by unfold byF at hl; simp at hl ⊢; omega)) rfl (Cos.refl _) ?_
    | exact endWr (.inl rfl) rfl ⟨⟨rfl, rfl⟩, trivial⟩ (.refl _) rfl
theorem wSign_s [Wd] (x : SignD) : FnW 206 [.agg (cSign x)] (signP x) := by
  intro bs hl
  refine mkS 15 [(1, ⟨[(0, false), (1, false), (2, false), (3, false), (4, false), (6, false), (5, true), (7, true), (8, false), (9, false), (10, false), (11, true)], [0]⟩)] Tryz.func206 rfl (by kernel_rfl) ?_
  repeat'
    (conv => arg 2; whnf)
    first
    | refine okAsk (by kernel_rfl) ?_
    | refine okFn (putSign_s bs x (by simp at hl; omega)) rfl (Cos.refl _) ?_
    | exact endWr (.inl rfl) rfl ⟨⟨rfl, rfl⟩, trivial⟩ (.refl _) rfl
theorem wBatch_s [Wd] (x : List SignedD) (hx : (dL dSigned).ok x) : FnW 209 [.list 9 (x.map cSigned)] (batchP x) := by
  intro bs hl
  refine mkS 15 [] Tryz.func209 rfl (by kernel_rfl) ?_
  repeat'
    (conv => arg 2; whnf)
    first
    | refine okAsk (by kernel_rfl) ?_
    | refine okFn (putBatch_s bs x hx (by omega)) rfl (Cos.refl _) ?_
    | exact endWr (.inl rfl) rfl ⟨⟨rfl, rfl⟩, trivial⟩ (.refl _) rfl
theorem wNum_s [Wd] (l : List Int) (hl : l.length ≤ 4194304) : FnW 208 [.list 1 (l.map cNum)] (numsB l) := by
  intro bs hb
  refine mkS 23 [] Tryz.func208 rfl (by kernel_rfl) ?_
  conv => arg 2; whnf
  refine okLoop (α := Nat) (fun q => ⟨[(8, .int .i64 q), (7, .int .i64 (l.map cNum).length), (6, .list 1 (l.map cNum)), (0, .ptr 0 0)], oW (bs ++ numsB (l.take q))⟩) (fun q => q ≤ l.length) (fun q => l.length - q) 0 (Nat.zero_le _) (Sv.mk' [0] rfl ⟨⟨rfl, by simp [numsB]; rfl⟩, trivial⟩ ⟨rfl, rfl, rfl, rfl, trivial⟩) ?_
  intro q hq
  have hb' : (bs ++ numsB (l.take q)).length + 200 ≤ big := by
    have : (numsB (l.take q)).length ≤ (numsB l).length := by
      conv => rhs; rw [← List.take_append_drop q l]
      simp only [numsB, List.flatMap_append, List.length_append]; omega
    simp only [List.length_append] at hb ⊢; omega
  repeat'
    (conv => arg 2; whnf)
    first
    | refine okBrT ?_
    | refine okBrF ?_
    | refine okBr (fun h => ?_) (fun h => ?_)
    | refine okNthMap (by simpa using h) (fun x hx => ?_)
    | refine okFn (putNum_s (bs ++ numsB (l.take q)) x (by omega)) rfl (Cos.refl _) ?_
    | refine okWrap (w64 (by simp at h; omega) (by simp at h; omega)) ?_
    | refine okRaw ?_
    | refine okAgain (q + 1) (Sv.mk' [0] rfl ⟨⟨rfl, by rw [List.take_add_one, hx]; simp [numsB]; rfl⟩, trivial⟩ ⟨rfl, rfl, rfl, rfl, trivial⟩) ?_ ?_
    | refine okOut ?_
    | refine endWr (.inl rfl) rfl ⟨⟨rfl, rfl⟩, trivial⟩ (.refl _) ?_
  · simp at h; omega
  · simp at h; omega
  · rw [show l.take q = l from List.take_of_length_le (by simp at h; omega)]
theorem wMany_s [Wd] (n : Int) : FnW 212 [.int .i64 n] (encI n) := by
  intro bs hb
  have h1 : numsB [n] = encI n := by simp [numsB]
  refine mkS 8 [] Tryz.func212 rfl (by kernel_rfl) ?_
  repeat'
    (conv => arg 2; whnf)
    first
    | refine okAsk (by kernel_rfl) ?_
    | refine okWr (wNum_s [n] (by simp)) (by rw [h1]; omega) ⟨⟨rfl, rfl⟩, trivial⟩ (Cos.refl _) rfl ?_
    | refine endWr (.inl rfl) rfl ⟨⟨rfl, rfl⟩, trivial⟩ (.refl _) ?_
  rw [h1]
theorem wSigns_s [Wd] (l : List SignD) (hl : l.length ≤ 4194304) : FnW 265 [.list 2 (l.map cSign)] (signsB l) := by
  intro bs hb
  have hm : ∀ q, ((bs ++ encI (l.length : Int)) ++ (l.take q).flatMap signP).length + 200 ≤ big := fun q => by
    have : ((l.take q).flatMap signP).length ≤ (l.flatMap signP).length := by
      conv => rhs; rw [← List.take_append_drop q l]
      simp only [List.flatMap_append, List.length_append]; omega
    simp only [signsB, List.length_append] at hb ⊢; omega
  have h0 := hm 0
  refine mkS 22 [] Tryz.func265 rfl (by kernel_rfl) ?_
  repeat'
    (conv => arg 2; whnf)
    first
    | refine okAsk (by kernel_rfl) ?_
    | refine okWr (wMany_s _) (by simpa using h0) ⟨⟨rfl, rfl⟩, trivial⟩ (Cos.refl _) rfl ?_
  conv => arg 2; whnf
  refine okLoop (α := Nat) (fun q => ⟨[(14, .int .i64 q), (13, .int .i64 (l.map cSign).length), (12, .list 2 (l.map cSign)), (0, .ptr 0 0)], oW ((bs ++ encI ((l.map cSign).length : Nat)) ++ (l.take q).flatMap signP)⟩) (fun q => q ≤ l.length) (fun q => l.length - q) 0 (Nat.zero_le _) (Sv.mk' [0] rfl ⟨⟨rfl, by simp; rfl⟩, trivial⟩ ⟨rfl, rfl, rfl, rfl, trivial⟩) ?_
  intro q hq
  repeat'
    (conv => arg 2; whnf)
    first
    | refine okAsk (by kernel_rfl) ?_
    | refine okBrT ?_
    | refine okBrF ?_
    | refine okLt' (fun hlt => ?_) (fun hge => ?_)
    | refine okNthMap (by simpa using hlt) (fun x hx => ?_)
    | refine okWr (wSign_s x) (by have := hm (q + 1); rw [List.take_add_one, hx] at this; simpa using this) ⟨⟨rfl, rfl⟩, trivial⟩ (Cos.refl _) rfl ?_
    | refine okWrap (w64 (by simp at hlt; omega) (by simp at hlt; omega)) ?_
    | refine okAgain (q + 1) (Sv.mk' [0] rfl ⟨⟨rfl, by rw [List.take_add_one, hx]; simp; rfl⟩, trivial⟩ ⟨rfl, rfl, rfl, rfl, trivial⟩) ?_ ?_
    | refine okOut ?_
    | refine endWr (.inl rfl) rfl ⟨⟨rfl, rfl⟩, trivial⟩ (.refl _) ?_
  · simp at hlt; omega
  · simp at hlt; omega
  · rw [show l.take q = l from List.take_of_length_le (by simpa using hge)]
    simp [signsB]
theorem wCert_s [Wd] (c : CertD) (hc : dCert.ok c) : FnW 214 [.agg (cCert c)] (certB c) := by
  intro bs hb
  have h1 : (bs ++ numsB [c.seq, c.digest]).length + 200 ≤ big := by simp only [certB, List.length_append] at hb ⊢; omega
  refine mkS 17 [] Tryz.func214 rfl (by kernel_rfl) ?_
  repeat'
    (conv => arg 2; whnf)
    first
    | refine okAsk (by kernel_rfl) ?_
    | refine okWr (wNum_s [c.seq, c.digest] (by simp)) (h1) ⟨⟨rfl, rfl⟩, trivial⟩ (Cos.refl _) rfl ?_
    | refine okWr (wSigns_s c.signs hc.2.2.1) (by simpa only [certB, List.append_assoc] using hb) ⟨⟨rfl, rfl⟩, trivial⟩ (Cos.refl _) rfl ?_
    | refine endWr (.inl rfl) rfl ⟨⟨rfl, rfl⟩, trivial⟩ (.refl _) ?_
  simp only [certB, List.append_assoc]
end Go.Proofs.YtafomdobfmmleaaGreatDoor

/- The writer of package message over changes and proofs (printed by gen_ah.py). -/
namespace Go.Proofs.YtafomdobfmmleaaGreatDoor
open Go.RowKit
set_option linter.unusedVariables false
set_option maxRecDepth 20000

theorem fm_le {α : Type} (f : α → List UInt8) (l : List α) (q : Nat) : ((l.take q).flatMap f).length ≤ (l.flatMap f).length := by
  conv => rhs; rw [← List.take_append_drop q l]
  simp only [List.flatMap_append, List.length_append]; omega
theorem fm_at {α : Type} (f : α → List UInt8) {l : List α} {q : Nat} {x : α} (h : l[q]? = some x) : ((l.take q).flatMap f).length + (f x).length ≤ (l.flatMap f).length := by
  have := fm_le f l (q + 1)
  rw [List.take_add_one, h] at this
  simpa using this
theorem wBody_s [Wd] (c : ChangeD) (hc : dChange.ok c) : FnW 211 [.agg (cChange c)] (bodyC c) := by
  intro bs hb
  refine mkS 57 [] Tryz.func211 rfl (by kernel_rfl) ?_
  repeat'
    (conv => arg 2; whnf)
    first
    | refine okAsk (by kernel_rfl) ?_
    | refine okWr (wNum_s [c.view, c.src] (by simp)) (by simp only [bodyC, List.length_append] at hb ⊢; omega) ⟨⟨rfl, rfl⟩, trivial⟩ (Cos.refl _) rfl ?_
    | refine okWr (wCert_s c.cert hc.2.2.1) (by simp only [bodyC, List.length_append] at hb ⊢; omega) ⟨⟨rfl, rfl⟩, trivial⟩ (Cos.refl _) rfl ?_
    | refine okWr (wMany_s _) (by simp only [bodyC, List.length_append, List.length_map] at hb ⊢; omega) ⟨⟨rfl, rfl⟩, trivial⟩ (Cos.refl _) rfl ?_
  conv => arg 2; whnf
  refine okLoop (α := Nat) (fun q => ⟨[(29, .int .i64 q), (28, .int .i64 (c.above.map cPrepared).length), (27, .list 7 (c.above.map cPrepared)), (3, .ptr 1 0), (0, .ptr 0 0)], [.cells 220 [.list 1 (((bs ++ numsB [c.view, c.src] ++ certB c.cert ++ encI ((c.above.map cPrepared).length : Nat)) ++ (c.above.take q).flatMap prepB).map cByte)], .cells 145 (cChange c)]⟩) (fun q => q ≤ c.above.length) (fun q => c.above.length - q) 0 (Nat.zero_le _) (Sv.mk' [0, 1] rfl ⟨⟨rfl, by simp; rfl⟩, ⟨rfl, rfl⟩, trivial⟩ ⟨rfl, rfl, rfl, rfl, rfl, trivial⟩) ?_
  intro q hq
  have hl : c.above.length ≤ 4194304 := hc.2.2.2.1.1
  repeat'
    (conv => arg 2; whnf)
    first
    | refine okAsk (by kernel_rfl) ?_
    | refine okBrT ?_
    | refine okBrF ?_
    | refine okLt' (fun hlt => ?_) (fun hge => ?_)
    | refine okNthMap (by simpa using hlt) (fun x hx => ?_)
    | refine okWr (wNum_s [x.view, x.seq, x.digest] (by simp)) (by have := fm_at prepB hx; simp only [bodyC, prepB, List.length_append, List.length_map] at hb this ⊢; omega) ⟨⟨rfl, rfl⟩, trivial⟩ (Cos.refl _) rfl ?_
    | refine okWr (wSign_s x.firstS) (by have := fm_at prepB hx; simp only [bodyC, prepB, List.length_append, List.length_map] at hb this ⊢; omega) ⟨⟨rfl, rfl⟩, trivial⟩ (Cos.refl _) rfl ?_
    | refine okWr (wSigns_s x.signs (hc.2.2.2.1.2 x (List.mem_of_getElem? hx)).2.2.2.2.1.1) (by have := fm_at prepB hx; simp only [bodyC, prepB, List.length_append, List.length_map] at hb this ⊢; omega) ⟨⟨rfl, rfl⟩, trivial⟩ (Cos.refl _) rfl ?_
    | refine okWr (wBatch_s x.batch (hc.2.2.2.1.2 x (List.mem_of_getElem? hx)).2.2.2.2.2) (by have := fm_at prepB hx; simp only [bodyC, prepB, List.length_append, List.length_map] at hb this ⊢; omega) ⟨⟨rfl, rfl⟩, trivial⟩ (Cos.refl _) rfl ?_
    | refine okWrap (w64 (by simp at hlt; omega) (by simp at hlt; omega)) ?_
    | refine okAgain (q + 1) (Sv.mk' [0, 1] rfl ⟨⟨rfl, by rw [List.take_add_one, hx]; simp [prepB]; rfl⟩, ⟨rfl, rfl⟩, trivial⟩ ⟨rfl, rfl, rfl, rfl, rfl, trivial⟩) ?_ ?_
    | refine okOut ?_
    | refine endWr (.inl rfl) rfl ⟨⟨rfl, rfl⟩, trivial⟩ (.refl _) ?_
  · simp at hlt; omega
  · simp at hlt; omega
  · rw [show c.above.take q = c.above from List.take_of_length_le (by simpa using hge)]
    simp [bodyC]
theorem wChange_s [Wd] (c : ChangeD) (hc : dChange.ok c) : FnW 213 [.agg (cChange c)] (chgB c) := by
  intro bs hb
  refine mkS 11 [] Tryz.func213 rfl (by kernel_rfl) ?_
  repeat'
    (conv => arg 2; whnf)
    first
    | refine okAsk (by kernel_rfl) ?_
    | refine okWr (wBody_s c hc) (by simp only [chgB, List.length_append] at hb ⊢; omega) ⟨⟨rfl, rfl⟩, trivial⟩ (Cos.refl _) rfl ?_
    | refine okWr (wSign_s c.sign) (by simp only [chgB, List.length_append] at hb ⊢; omega) ⟨⟨rfl, rfl⟩, trivial⟩ (Cos.refl _) rfl ?_
    | refine endWr (.inl rfl) rfl ⟨⟨rfl, rfl⟩, trivial⟩ (.refl _) ?_
  simp [chgB]
theorem wProof_s [Wd] (p : ProofD) (hp : dProof.ok p) : FnW 216 [.agg (cProof p)] (proofB p) := by
  intro bs hb
  refine mkS 92 [(1, ⟨[(0, false), (1, false), (2, false), (3, false), (4, false), (5, true), (6, true)], [0]⟩)] Tryz.func216 rfl (by kernel_rfl) ?_
  repeat'
    (conv => arg 2; whnf)
    first
    | refine okAsk (by kernel_rfl) ?_
    | refine okWr (wStr_s p.topic hp.1) (by simp only [proofB, List.length_append] at hb ⊢; omega) ⟨⟨rfl, rfl⟩, trivial⟩ (Cos.refl _) rfl ?_
    | refine okWr (wNum_s [p.offset] (by simp)) (by simp only [proofB, List.length_append] at hb ⊢; omega) ⟨⟨rfl, rfl⟩, trivial⟩ (Cos.refl _) rfl ?_
    | refine okWr (wStr_s p.record hp.2.2.1) (by simp only [proofB, List.length_append] at hb ⊢; omega) ⟨⟨rfl, rfl⟩, trivial⟩ (Cos.refl _) rfl ?_
    | refine okWr (wMany_s _) (by simp only [proofB, List.length_append, List.length_map] at hb ⊢; omega) ⟨⟨rfl, rfl⟩, trivial⟩ (Cos.refl _) rfl ?_
    | refine okAsk (by have : p.topic.length ≤ 4194304 := hp.1; omega) ?_
  conv => arg 2; whnf
  refine okLoop (α := Nat) (fun q => ⟨[(38, .int .i64 q), (37, .int .i64 (p.headers.map cHeader).length), (36, .list 5 (p.headers.map cHeader)), (3, .ptr 1 0), (0, .ptr 0 0)], [.cells 220 [.list 1 (((bs ++ byF p.topic ++ numsB [p.offset] ++ byF p.record ++ encI ((p.headers.map cHeader).length : Nat)) ++ (p.headers.take q).flatMap headB).map cByte)], .cells 55 (cProof p)]⟩) (fun q => q ≤ p.headers.length) (fun q => p.headers.length - q) 0 (Nat.zero_le _) (Sv.mk' [0, 1] rfl ⟨⟨rfl, by simp; rfl⟩, ⟨rfl, rfl⟩, trivial⟩ ⟨rfl, rfl, rfl, rfl, rfl, trivial⟩) ?_
  intro q hq
  have hl : p.headers.length ≤ 4194304 := hp.2.2.2.1.1
  repeat'
    (conv => arg 2; whnf)
    first
    | refine okAsk (by kernel_rfl) ?_
    | refine okBrT ?_
    | refine okBrF ?_
    | refine okLt' (fun hlt => ?_) (fun hge => ?_)
    | refine okNthMap (by simpa using hlt) (fun x hx => ?_)
    | refine okWr (wNum_s [x.seq, x.prev, x.batch, x.root, x.state] (by simp)) (by have := fm_at headB hx; simp only [proofB, headB, List.length_append, List.length_map] at hb this ⊢; omega) ⟨⟨rfl, rfl⟩, trivial⟩ (Cos.refl _) rfl ?_
    | refine okWrap (w64 (by simp at hlt; omega) (by simp at hlt; omega)) ?_
    | refine okAgain (q + 1) (Sv.mk' [0, 1] rfl ⟨⟨rfl, by rw [List.take_add_one, hx]; simp [headB]; rfl⟩, ⟨rfl, rfl⟩, trivial⟩ ⟨rfl, rfl, rfl, rfl, rfl, trivial⟩) ?_ ?_
    | refine okOut ?_
    | refine okWr (wNum_s [p.index, p.count] (by simp)) (by have := fm_le headB p.headers q; simp only [proofB, List.length_append, List.length_map] at hb this ⊢; omega) ⟨⟨rfl, rfl⟩, trivial⟩ (Cos.refl _) rfl ?_
    | refine okWr (wMany_s _) (by have := fm_le headB p.headers q; simp only [proofB, List.length_append, List.length_map] at hb this ⊢; omega) ⟨⟨rfl, rfl⟩, trivial⟩ (Cos.refl _) rfl ?_
  · simp at hlt; omega
  · simp at hlt; omega
  rw [show p.headers.take q = p.headers from List.take_of_length_le (by simpa using hge)]
  clear hl hge
  conv => arg 2; whnf
  refine okLoop (α := Nat) (fun q => ⟨[(77, .int .i64 q), (76, .int .i64 (p.path.map cNum).length), (75, .list 1 (p.path.map cNum)), (3, .ptr 1 0), (0, .ptr 0 0)], [.cells 220 [.list 1 (((bs ++ byF p.topic ++ numsB [p.offset] ++ byF p.record ++ encI (p.headers.length : Int) ++ p.headers.flatMap headB ++ numsB [p.index, p.count] ++ encI ((p.path.map cNum).length : Nat)) ++ (p.path.take q).flatMap encI).map cByte)], .cells 55 (cProof p)]⟩) (fun q => q ≤ p.path.length) (fun q => p.path.length - q) 0 (Nat.zero_le _) (Sv.mk' [0, 1] rfl ⟨⟨rfl, by simp; rfl⟩, ⟨rfl, rfl⟩, trivial⟩ ⟨rfl, rfl, rfl, rfl, rfl, trivial⟩) ?_
  intro q hq
  have hl : p.path.length ≤ 4194304 := hp.2.2.2.2.2.2.1.1
  repeat'
    (conv => arg 2; whnf)
    first
    | refine okAsk (by kernel_rfl) ?_
    | refine okBrT ?_
    | refine okBrF ?_
    | refine okLt' (fun hlt => ?_) (fun hge => ?_)
    | refine okNthMap (by simpa using hlt) (fun x hx => ?_)
    | refine okWr (wNum_s [x] (by simp)) (by have := fm_at encI hx; have e : (numsB [x]).length = (encI x).length := (by simp [numsB]); simp only [proofB, List.length_append, List.length_map] at hb this ⊢; omega) ⟨⟨rfl, rfl⟩, trivial⟩ (Cos.refl _) rfl ?_
    | refine okWrap (w64 (by simp at hlt; omega) (by simp at hlt; omega)) ?_
    | refine okAgain (q + 1) (Sv.mk' [0, 1] rfl ⟨⟨rfl, by rw [List.take_add_one, hx]; simp [numsB]; rfl⟩, ⟨rfl, rfl⟩, trivial⟩ ⟨rfl, rfl, rfl, rfl, rfl, trivial⟩) ?_ ?_
    | refine okOut ?_
    | refine okWr (wCert_s p.cert hp.2.2.2.2.2.2.2) (by have := fm_le encI p.path q; simp only [proofB, List.length_append, List.length_map] at hb this ⊢; omega) ⟨⟨rfl, rfl⟩, trivial⟩ (Cos.refl _) rfl ?_
    | refine endWr (.inl rfl) rfl ⟨⟨rfl, rfl⟩, trivial⟩ (.refl _) ?_
  · simp at hlt; omega
  · simp at hlt; omega
  · rw [show p.path.take q = p.path from List.take_of_length_le (by simpa using hge)]
    simp [proofB]
end Go.Proofs.YtafomdobfmmleaaGreatDoor

/- The writer of package message over a message without its signature, from no bytes (printed by gen_ai.py). -/
namespace Go.Proofs.YtafomdobfmmleaaGreatDoor
open Go.RowKit
set_option linter.unusedVariables false
set_option maxRecDepth 20000

section
variable {P : Program}
theorem endBy [Wd] {tb : TT} {rs : List ResultVar} {e : Exit} {s : S} {xs ys : List UInt8} (he : e = .normal ∨ e = .ret) (hr : resD tb s rs = some [.list 1 (xs.map cByte)]) (h : xs = ys) : (T.leaf e s).ok P (Lf tb rs [] (fun r' h' => r' = .list 1 (ys.map cByte) ∧ h' = [])) := by
  subst h
  exact endFn0 he hr (.refl _) rfl
end
theorem encI_l (n : Int) : (encI n).length ≤ 10 := by
  unfold encI
  exact enc_10 (by omega)
theorem resI {a : Int} (h : 0 ≤ a ∧ a ≤ 9223372036854775807) : encI (if a < 0 then 0 else a) = enc (max a 0).toNat := by
  rw [if_neg (by omega), encI_nat h.1 (by omega), Int.max_eq_left h.1]
theorem putResult_s [Wd] (bs : List UInt8) (x : ResultD) (he : 0 ≤ x.err ∧ x.err ≤ 9223372036854775807) (ho : 0 ≤ x.offset ∧ x.offset ≤ 9223372036854775807) (hl : bs.length + 110 ≤ big) : FnP Tryz.prog 210 [.list 1 (bs.map cByte), .agg (cResult x)] (.list 1 ((bs ++ resultB x).map cByte)) := by
  have p1 := encI_l (if x.err < 0 then 0 else x.err)
  refine mkS 16 [(1, ⟨[(0, false), (1, false), (2, false), (3, false), (4, false), (6, false), (7, false), (8, false), (9, false), (5, true), (10, true), (11, false)], []⟩)] Tryz.func210 rfl (by kernel_rfl) ?_
  repeat'
    (conv => arg 2; whnf)
    first
    | refine okAsk (by kernel_rfl) ?_
    | refine okRaw ?_
    | refine okFn (putNum_s _ _ (by (try simp only [List.length_append]); omega)) rfl (Cos.refl _) ?_
    | (refine endBy (.inr rfl) rfl ?_; rw [resI he, resI ho, List.append_assoc]; rfl)
/-- the first number, from no bytes -/
theorem wNum0_s [Wd] (n : Int) : FnS Tryz.prog 208 [.ptr 0 0, .list 1 ([n].map cNum)] [.cells 220 [.nils]] (fun r h => r = .tup [] ∧ h = oW (encI n)) := by
  refine mkS 23 [] Tryz.func208 rfl (by kernel_rfl) ?_
  conv => arg 2; whnf
  refine okLoop (α := Bool) (fun b => match b with
    | false => ⟨[(8, .int .i64 0), (7, .int .i64 1), (6, .list 1 ([n].map cNum)), (0, .ptr 0 0)], [.cells 220 [.nils]]⟩
    | true => ⟨[(8, .int .i64 1), (7, .int .i64 1), (6, .list 1 ([n].map cNum)), (0, .ptr 0 0)], oW (encI n)⟩) (fun _ => True) (fun b => bif b then 0 else 1) false trivial (Sv.mk' [0] rfl ⟨⟨rfl, rfl⟩, trivial⟩ ⟨rfl, rfl, rfl, rfl, trivial⟩) ?_
  rintro (_ | _) _
  all_goals
    repeat'
      (conv => arg 2; whnf)
      first
      | refine okBrT ?_
      | refine okBrF ?_
      | refine okNth (cNum n) (by decide) rfl ?_
      | refine okFn (putNum_s [] n (by simp [big])) rfl (Cos.cons (Co.nil _) (.refl _)) ?_
      | refine okWrap (w64 (by decide) (by decide)) ?_
      | refine okRaw ?_
      | exact okAgain true (Sv.mk' [0] rfl ⟨⟨rfl, rfl⟩, trivial⟩ ⟨rfl, rfl, rfl, rfl, trivial⟩) trivial (by decide)
      | refine okOut ?_
      | exact endObj [0] (.inl rfl) rfl rfl ⟨⟨rfl, rfl⟩, trivial⟩ ⟨⟨rfl, rfl⟩, trivial⟩ (.refl _)
theorem wShort_s [Wd] (bs : List UInt8) (hs : ¬ 262144 < bs.length) : FnS Tryz.prog 207 [.ptr 0 0] (oW bs) (fun r h => r = .tup [.list 1 (bs.map cByte), .int .i64 0] ∧ h = oW bs) := by
  refine mkS 16 [] Tryz.func207 rfl (by kernel_rfl) ?_
  repeat'
    (conv => arg 2; whnf)
    first
    | refine okBr (fun h => ?_) (fun h => ?_)
    | exact endObj [0] (.inr rfl) rfl rfl ⟨⟨rfl, rfl⟩, trivial⟩ ⟨⟨rfl, rfl⟩, trivial⟩ (.refl _)
  simp at h
  omega
theorem wShortL_s [Wd] (bs : List UInt8) (h : 262144 < bs.length) : FnS Tryz.prog 207 [.ptr 0 0] (oW bs) (fun r h => r = .tup [.nils, .int .i64 3] ∧ h = oW bs) := by
  refine mkS 16 [] Tryz.func207 rfl (by kernel_rfl) ?_
  repeat'
    (conv => arg 2; whnf)
    first
    | refine okBr (fun h => ?_) (fun h => ?_)
    | exact endObj [0] (.inr rfl) rfl rfl ⟨⟨rfl, rfl⟩, trivial⟩ ⟨⟨rfl, rfl⟩, trivial⟩ (.refl _)
  simp at h
  omega
theorem endWr0 [Wd] {tb : TT} {rs : List ResultVar} {ex : Exit} {s : S} {bs' : List UInt8} {ds : List D} (he : ex = .normal ∨ ex = .ret) (hr : resD tb s rs = some ds) (hv : vwP s.h [0] [0] (oW bs')) (hco : Co (resV ds) (.tup [])) {add : List UInt8} (hx : bs' = add) : (T.leaf ex s).ok Tryz.prog (Lf tb rs [.cells 220 [.nils]] (fun r h => r = .tup [] ∧ h = oW add)) := by
  subst hx
  exact endObj [0] he hr rfl hv ⟨⟨rfl, rfl⟩, trivial⟩ hco
end Go.Proofs.YtafomdobfmmleaaGreatDoor

/- The writer of package message over a message without its signature, a kind at a time (printed by gen_al.py). -/
namespace Go.Proofs.YtafomdobfmmleaaGreatDoor
open Go.RowKit
set_option linter.unusedVariables false
set_option maxRecDepth 20000

theorem wUns1_s [Wd] (m : MsgD) (hm : dMsg.ok m) (hl : (encI 1 ++ (batchP m.batch)).length + 200 ≤ big) : FnS Tryz.prog 158 [.ptr 0 0, .agg (cMsg { m with kind := 1 })] [.cells 220 [.nils]] (fun r h => r = .tup [] ∧ h = oW (encI 1 ++ (batchP m.batch))) := by
  refine mkS 222 [] Tryz.func158 rfl (by kernel_rfl) ?_
  repeat'
    (conv => arg 2; whnf)
    first
    | refine okAsk (by kernel_rfl) ?_
    | refine okBrT ?_
    | refine okBrF ?_
    | refine okCall [0] (wNum0_s _) (.mk' rfl ⟨⟨rfl, rfl⟩, trivial⟩) (Cos.refl _) rfl ?_
    | refine okWr (wBatch_s m.batch hm.2.2.2.2.2.2.2.2.1) (by simp only [List.length_append] at hl ⊢; omega) ⟨⟨rfl, rfl⟩, trivial⟩ (Cos.refl _) rfl ?_
    | refine endWr0 (.inl rfl) rfl ⟨⟨rfl, rfl⟩, trivial⟩ (.refl _) ?_
  all_goals (first | rfl | simp)
theorem wUns2_s [Wd] (m : MsgD) (hm : dMsg.ok m) (hl : (encI 2 ++ (numsB [m.src, m.view, m.seq, m.digest] ++ batchP m.batch)).length + 200 ≤ big) : FnS Tryz.prog 158 [.ptr 0 0, .agg (cMsg { m with kind := 2 })] [.cells 220 [.nils]] (fun r h => r = .tup [] ∧ h = oW (encI 2 ++ (numsB [m.src, m.view, m.seq, m.digest] ++ batchP m.batch))) := by
  refine mkS 222 [] Tryz.func158 rfl (by kernel_rfl) ?_
  repeat'
    (conv => arg 2; whnf)
    first
    | refine okAsk (by kernel_rfl) ?_
    | refine okBrT ?_
    | refine okBrF ?_
    | refine okCall [0] (wNum0_s _) (.mk' rfl ⟨⟨rfl, rfl⟩, trivial⟩) (Cos.refl _) rfl ?_
    | refine okWr (wNum_s [m.src, m.view, m.seq, m.digest] (by simp)) (by simp only [List.length_append] at hl ⊢; omega) ⟨⟨rfl, rfl⟩, trivial⟩ (Cos.refl _) rfl ?_
    | refine okWr (wBatch_s m.batch hm.2.2.2.2.2.2.2.2.1) (by simp only [List.length_append] at hl ⊢; omega) ⟨⟨rfl, rfl⟩, trivial⟩ (Cos.refl _) rfl ?_
    | refine endWr0 (.inl rfl) rfl ⟨⟨rfl, rfl⟩, trivial⟩ (.refl _) ?_
  all_goals (first | rfl | simp)
theorem wUns3_s [Wd] (m : MsgD) (hm : dMsg.ok m) (hl : (encI 3 ++ (numsB [m.src, m.view, m.seq, m.digest])).length + 200 ≤ big) : FnS Tryz.prog 158 [.ptr 0 0, .agg (cMsg { m with kind := 3 })] [.cells 220 [.nils]] (fun r h => r = .tup [] ∧ h = oW (encI 3 ++ (numsB [m.src, m.view, m.seq, m.digest]))) := by
  refine mkS 222 [] Tryz.func158 rfl (by kernel_rfl) ?_
  repeat'
    (conv => arg 2; whnf)
    first
    | refine okAsk (by kernel_rfl) ?_
    | refine okBrT ?_
    | refine okBrF ?_
    | refine okCall [0] (wNum0_s _) (.mk' rfl ⟨⟨rfl, rfl⟩, trivial⟩) (Cos.refl _) rfl ?_
    | refine okWr (wNum_s [m.src, m.view, m.seq, m.digest] (by simp)) (by simp only [List.length_append] at hl ⊢; omega) ⟨⟨rfl, rfl⟩, trivial⟩ (Cos.refl _) rfl ?_
    | refine endWr0 (.inl rfl) rfl ⟨⟨rfl, rfl⟩, trivial⟩ (.refl _) ?_
  all_goals (first | rfl | simp)
theorem wUns4_s [Wd] (m : MsgD) (hm : dMsg.ok m) (hl : (encI 4 ++ (numsB [m.src, m.view, m.seq, m.digest])).length + 200 ≤ big) : FnS Tryz.prog 158 [.ptr 0 0, .agg (cMsg { m with kind := 4 })] [.cells 220 [.nils]] (fun r h => r = .tup [] ∧ h = oW (encI 4 ++ (numsB [m.src, m.view, m.seq, m.digest]))) := by
  refine mkS 222 [] Tryz.func158 rfl (by kernel_rfl) ?_
  repeat'
    (conv => arg 2; whnf)
    first
    | refine okAsk (by kernel_rfl) ?_
    | refine okBrT ?_
    | refine okBrF ?_
    | refine okCall [0] (wNum0_s _) (.mk' rfl ⟨⟨rfl, rfl⟩, trivial⟩) (Cos.refl _) rfl ?_
    | refine okWr (wNum_s [m.src, m.view, m.seq, m.digest] (by simp)) (by simp only [List.length_append] at hl ⊢; omega) ⟨⟨rfl, rfl⟩, trivial⟩ (Cos.refl _) rfl ?_
    | refine endWr0 (.inl rfl) rfl ⟨⟨rfl, rfl⟩, trivial⟩ (.refl _) ?_
  all_goals (first | rfl | simp)
theorem wUns5_s [Wd] (m : MsgD) (hm : dMsg.ok m) (h5 : (0 ≤ m.result.err ∧ m.result.err ≤ 9223372036854775807) ∧ (0 ≤ m.result.offset ∧ m.result.offset ≤ 9223372036854775807)) (hl : (encI 5 ++ (numsB [m.src, m.view, m.client, m.time] ++ resultB m.result)).length + 200 ≤ big) : FnS Tryz.prog 158 [.ptr 0 0, .agg (cMsg { m with kind := 5 })] [.cells 220 [.nils]] (fun r h => r = .tup [] ∧ h = oW (encI 5 ++ (numsB [m.src, m.view, m.client, m.time] ++ resultB m.result))) := by
  refine mkS 222 [(13, ⟨[(0, false), (1, false), (2, false), (3, false), (4, false), (6, false), (7, false), (5, true), (8, true), (9, false), (10, false), (11, false), (12, true)], [0]⟩)] Tryz.func158 rfl (by kernel_rfl) ?_
  repeat'
    (conv => arg 2; whnf)
    first
    | refine okAsk (by kernel_rfl) ?_
    | refine okBrT ?_
    | refine okBrF ?_
    | refine okCall [0] (wNum0_s _) (.mk' rfl ⟨⟨rfl, rfl⟩, trivial⟩) (Cos.refl _) rfl ?_
    | refine okWr (wNum_s [m.src, m.view, m.client, m.time] (by simp)) (by simp only [List.length_append] at hl ⊢; omega) ⟨⟨rfl, rfl⟩, trivial⟩ (Cos.refl _) rfl ?_
    | refine okFn (putResult_s _ m.result h5.1 h5.2 (by simp only [List.length_append] at hl ⊢; omega)) rfl (Cos.refl _) ?_
    | refine endWr0 (.inl rfl) rfl ⟨⟨rfl, rfl⟩, trivial⟩ (.refl _) ?_
  all_goals (first | rfl | simp)
theorem wUns6_s [Wd] (m : MsgD) (hm : dMsg.ok m) (hl : (encI 6 ++ (numsB [m.src, m.seq, m.digest])).length + 200 ≤ big) : FnS Tryz.prog 158 [.ptr 0 0, .agg (cMsg { m with kind := 6 })] [.cells 220 [.nils]] (fun r h => r = .tup [] ∧ h = oW (encI 6 ++ (numsB [m.src, m.seq, m.digest]))) := by
  refine mkS 222 [] Tryz.func158 rfl (by kernel_rfl) ?_
  repeat'
    (conv => arg 2; whnf)
    first
    | refine okAsk (by kernel_rfl) ?_
    | refine okBrT ?_
    | refine okBrF ?_
    | refine okCall [0] (wNum0_s _) (.mk' rfl ⟨⟨rfl, rfl⟩, trivial⟩) (Cos.refl _) rfl ?_
    | refine okWr (wNum_s [m.src, m.seq, m.digest] (by simp)) (by simp only [List.length_append] at hl ⊢; omega) ⟨⟨rfl, rfl⟩, trivial⟩ (Cos.refl _) rfl ?_
    | refine endWr0 (.inl rfl) rfl ⟨⟨rfl, rfl⟩, trivial⟩ (.refl _) ?_
  all_goals (first | rfl | simp)
theorem wUns7_s [Wd] (m : MsgD) (hm : dMsg.ok m) {c : ChangeD} (h7 : m.changes[0]? = some c) (hl : (encI 7 ++ (bodyC c)).length + 200 ≤ big) : FnS Tryz.prog 158 [.ptr 0 0, .agg (cMsg { m with kind := 7 })] [.cells 220 [.nils]] (fun r h => r = .tup [] ∧ h = oW (encI 7 ++ (bodyC c))) := by
  refine mkS 222 [] Tryz.func158 rfl (by kernel_rfl) ?_
  repeat'
    (conv => arg 2; whnf)
    first
    | refine okAsk (by kernel_rfl) ?_
    | refine okBrT ?_
    | refine okBrF ?_
    | refine okCall [0] (wNum0_s _) (.mk' rfl ⟨⟨rfl, rfl⟩, trivial⟩) (Cos.refl _) rfl ?_
    | refine okNth (cChange c) (by decide) (by simp [h7]) ?_
    | refine okWr (wBody_s c (hm.2.2.2.2.2.2.2.2.2.2.1.2 c (List.mem_of_getElem? h7))) (by simp only [List.length_append] at hl ⊢; omega) ⟨⟨rfl, rfl⟩, trivial⟩ (Cos.refl _) rfl ?_
    | refine endWr0 (.inl rfl) rfl ⟨⟨rfl, rfl⟩, trivial⟩ (.refl _) ?_
  all_goals (first | rfl | simp)
theorem wUns9_s [Wd] (m : MsgD) (hm : dMsg.ok m) (hl : (encI 9 ++ (numsB [m.src, m.seq])).length + 200 ≤ big) : FnS Tryz.prog 158 [.ptr 0 0, .agg (cMsg { m with kind := 9 })] [.cells 220 [.nils]] (fun r h => r = .tup [] ∧ h = oW (encI 9 ++ (numsB [m.src, m.seq]))) := by
  refine mkS 222 [] Tryz.func158 rfl (by kernel_rfl) ?_
  repeat'
    (conv => arg 2; whnf)
    first
    | refine okAsk (by kernel_rfl) ?_
    | refine okBrT ?_
    | refine okBrF ?_
    | refine okCall [0] (wNum0_s _) (.mk' rfl ⟨⟨rfl, rfl⟩, trivial⟩) (Cos.refl _) rfl ?_
    | refine okWr (wNum_s [m.src, m.seq] (by simp)) (by simp only [List.length_append] at hl ⊢; omega) ⟨⟨rfl, rfl⟩, trivial⟩ (Cos.refl _) rfl ?_
    | refine endWr0 (.inl rfl) rfl ⟨⟨rfl, rfl⟩, trivial⟩ (.refl _) ?_
  all_goals (first | rfl | simp)
theorem wUns10_s [Wd] (m : MsgD) (hm : dMsg.ok m) (hl : (encI 10 ++ (numsB [m.src] ++ certB m.cert ++ byF m.state)).length + 200 ≤ big) : FnS Tryz.prog 158 [.ptr 0 0, .agg (cMsg { m with kind := 10 })] [.cells 220 [.nils]] (fun r h => r = .tup [] ∧ h = oW (encI 10 ++ (numsB [m.src] ++ certB m.cert ++ byF m.state))) := by
  refine mkS 222 [] Tryz.func158 rfl (by kernel_rfl) ?_
  repeat'
    (conv => arg 2; whnf)
    first
    | refine okAsk (by kernel_rfl) ?_
    | refine okBrT ?_
    | refine okBrF ?_
    | refine okCall [0] (wNum0_s _) (.mk' rfl ⟨⟨rfl, rfl⟩, trivial⟩) (Cos.refl _) rfl ?_
    | refine okWr (wNum_s [m.src] (by simp)) (by simp only [List.length_append] at hl ⊢; omega) ⟨⟨rfl, rfl⟩, trivial⟩ (Cos.refl _) rfl ?_
    | refine okWr (wCert_s m.cert hm.2.2.2.2.2.2.2.2.2.1) (by simp only [List.length_append] at hl ⊢; omega) ⟨⟨rfl, rfl⟩, trivial⟩ (Cos.refl _) rfl ?_
    | refine okWr (wStr_s m.state hm.2.2.2.2.2.2.2.2.2.2.2.2.1) (by simp only [List.length_append] at hl ⊢; omega) ⟨⟨rfl, rfl⟩, trivial⟩ (Cos.refl _) rfl ?_
    | refine endWr0 (.inl rfl) rfl ⟨⟨rfl, rfl⟩, trivial⟩ (.refl _) ?_
  all_goals (first | rfl | simp)
theorem wUns11_s [Wd] (m : MsgD) (hm : dMsg.ok m) (hl : (encI 11 ++ (numsB [m.client] ++ byF m.topic ++ numsB [m.offset])).length + 200 ≤ big) : FnS Tryz.prog 158 [.ptr 0 0, .agg (cMsg { m with kind := 11 })] [.cells 220 [.nils]] (fun r h => r = .tup [] ∧ h = oW (encI 11 ++ (numsB [m.client] ++ byF m.topic ++ numsB [m.offset]))) := by
  refine mkS 222 [(42, ⟨[(0, false), (1, false), (2, false), (3, false), (4, false), (5, true), (6, true)], [0]⟩)] Tryz.func158 rfl (by kernel_rfl) ?_
  repeat'
    (conv => arg 2; whnf)
    first
    | refine okAsk (by kernel_rfl) ?_
    | refine okBrT ?_
    | refine okBrF ?_
    | refine okCall [0] (wNum0_s _) (.mk' rfl ⟨⟨rfl, rfl⟩, trivial⟩) (Cos.refl _) rfl ?_
    | refine okWr (wNum_s [m.client] (by simp)) (by simp only [List.length_append] at hl ⊢; omega) ⟨⟨rfl, rfl⟩, trivial⟩ (Cos.refl _) rfl ?_
    | refine okAsk (by have : m.topic.length ≤ 4194304 := hm.2.2.2.2.2.2.2.2.2.2.2.2.2.1; simp only; omega) ?_
    | refine okWr (wStr_s m.topic hm.2.2.2.2.2.2.2.2.2.2.2.2.2.1) (by simp only [List.length_append] at hl ⊢; omega) ⟨⟨rfl, rfl⟩, trivial⟩ (Cos.refl _) rfl ?_
    | refine okWr (wNum_s [m.offset] (by simp)) (by simp only [List.length_append] at hl ⊢; omega) ⟨⟨rfl, rfl⟩, trivial⟩ (Cos.refl _) rfl ?_
    | refine endWr0 (.inl rfl) rfl ⟨⟨rfl, rfl⟩, trivial⟩ (.refl _) ?_
  all_goals (first | rfl | simp)
theorem wUns12_s [Wd] (m : MsgD) (hm : dMsg.ok m) (hl : (encI 12 ++ (numsB [m.src] ++ proofB m.proof)).length + 200 ≤ big) : FnS Tryz.prog 158 [.ptr 0 0, .agg (cMsg { m with kind := 12 })] [.cells 220 [.nils]] (fun r h => r = .tup [] ∧ h = oW (encI 12 ++ (numsB [m.src] ++ proofB m.proof))) := by
  refine mkS 222 [] Tryz.func158 rfl (by kernel_rfl) ?_
  repeat'
    (conv => arg 2; whnf)
    first
    | refine okAsk (by kernel_rfl) ?_
    | refine okBrT ?_
    | refine okBrF ?_
    | refine okCall [0] (wNum0_s _) (.mk' rfl ⟨⟨rfl, rfl⟩, trivial⟩) (Cos.refl _) rfl ?_
    | refine okWr (wNum_s [m.src] (by simp)) (by simp only [List.length_append] at hl ⊢; omega) ⟨⟨rfl, rfl⟩, trivial⟩ (Cos.refl _) rfl ?_
    | refine okWr (wProof_s m.proof hm.2.2.2.2.2.2.2.2.2.2.2.2.2.2.2.1) (by simp only [List.length_append] at hl ⊢; omega) ⟨⟨rfl, rfl⟩, trivial⟩ (Cos.refl _) rfl ?_
    | refine endWr0 (.inl rfl) rfl ⟨⟨rfl, rfl⟩, trivial⟩ (.refl _) ?_
  all_goals (first | rfl | simp)
theorem wUns8_s [Wd] (m : MsgD) (hm : dMsg.ok m) (hl : (encI 8 ++ (numsB [m.src, m.view] ++ encI (m.changes.length : Int) ++ m.changes.flatMap chgB ++ encI (m.entries.length : Int) ++ m.entries.flatMap entryB)).length + 200 ≤ big) : FnS Tryz.prog 158 [.ptr 0 0, .agg (cMsg { m with kind := 8 })] [.cells 220 [.nils]] (fun r h => r = .tup [] ∧ h = oW (encI 8 ++ (numsB [m.src, m.view] ++ encI (m.changes.length : Int) ++ m.changes.flatMap chgB ++ encI (m.entries.length : Int) ++ m.entries.flatMap entryB))) := by
  refine mkS 222 [] Tryz.func158 rfl (by kernel_rfl) ?_
  repeat'
    (conv => arg 2; whnf)
    first
    | refine okAsk (by kernel_rfl) ?_
    | refine okBrT ?_
    | refine okBrF ?_
    | refine okLt' (fun hlt => ?_) (fun hge => ?_)
    | refine okNthMap (by simpa using hlt) (fun x hx => ?_)
    | refine okCall [0] (wNum0_s _) (.mk' rfl ⟨⟨rfl, rfl⟩, trivial⟩) (Cos.refl _) rfl ?_
    | refine okWr (wNum_s [m.src, m.view] (by simp)) (by simp only [List.length_append] at hl ⊢; omega) ⟨⟨rfl, rfl⟩, trivial⟩ (Cos.refl _) rfl ?_
    | refine okWr (wMany_s _) (by simp only [List.length_append, List.length_map] at hl ⊢; omega) ⟨⟨rfl, rfl⟩, trivial⟩ (Cos.refl _) rfl ?_
  conv => arg 2; whnf
  refine okLoop (α := Nat) (fun q => ⟨[(116, .int .i64 q), (115, .int .i64 (m.changes.map cChange).length), (114, .list 8 (m.changes.map cChange)), (3, .ptr 1 0), (0, .ptr 0 0)], [.cells 220 [.list 1 (((encI 8 ++ numsB [m.src, m.view] ++ encI ((m.changes.map cChange).length : Nat)) ++ (m.changes.take q).flatMap chgB).map cByte)], .cells 59 (cMsg { m with kind := 8 })]⟩) (fun q => q ≤ m.changes.length) (fun q => m.changes.length - q) 0 (Nat.zero_le _) (Sv.mk' [0, 1] rfl ⟨⟨rfl, by simp; rfl⟩, ⟨rfl, rfl⟩, trivial⟩ ⟨rfl, rfl, rfl, rfl, rfl, trivial⟩) ?_
  intro q hq
  have hll : m.changes.length ≤ 4194304 := hm.2.2.2.2.2.2.2.2.2.2.1.1
  repeat'
    (conv => arg 2; whnf)
    first
    | refine okAsk (by kernel_rfl) ?_
    | refine okBrT ?_
    | refine okBrF ?_
    | refine okLt' (fun hlt => ?_) (fun hge => ?_)
    | refine okNthMap (by simpa using hlt) (fun x hx => ?_)
    | refine okWr (wChange_s x (hm.2.2.2.2.2.2.2.2.2.2.1.2 x (List.mem_of_getElem? hx))) (by have := fm_at chgB hx; simp only [List.length_append, List.length_map] at hl this ⊢; omega) ⟨⟨rfl, rfl⟩, trivial⟩ (Cos.refl _) rfl ?_
    | refine okWrap (w64 (by simp at hlt; omega) (by simp at hlt; omega)) ?_
    | refine okAgain (q + 1) (Sv.mk' [0, 1] rfl ⟨⟨rfl, by rw [List.take_add_one, hx]; simp [chgB]; rfl⟩, ⟨rfl, rfl⟩, trivial⟩ ⟨rfl, rfl, rfl, rfl, rfl, trivial⟩) ?_ ?_
    | refine okOut ?_
    | refine okWr (wMany_s _) (by have := fm_le chgB m.changes q; simp only [List.length_append, List.length_map] at hl this ⊢; omega) ⟨⟨rfl, rfl⟩, trivial⟩ (Cos.refl _) rfl ?_
  · simp at hlt; omega
  · simp at hlt; omega
  rw [show m.changes.take q = m.changes from List.take_of_length_le (by simpa using hge)]
  clear hll hge
  conv => arg 2; whnf
  refine okLoop (α := Nat) (fun q => ⟨[(134, .int .i64 q), (133, .int .i64 (m.entries.map cEntry).length), (132, .list 5 (m.entries.map cEntry)), (3, .ptr 1 0), (0, .ptr 0 0)], [.cells 220 [.list 1 (((encI 8 ++ numsB [m.src, m.view] ++ encI (m.changes.length : Int) ++ m.changes.flatMap chgB ++ encI ((m.entries.map cEntry).length : Nat)) ++ (m.entries.take q).flatMap entryB).map cByte)], .cells 59 (cMsg { m with kind := 8 })]⟩) (fun q => q ≤ m.entries.length) (fun q => m.entries.length - q) 0 (Nat.zero_le _) (Sv.mk' [0, 1] rfl ⟨⟨rfl, by simp; rfl⟩, ⟨rfl, rfl⟩, trivial⟩ ⟨rfl, rfl, rfl, rfl, rfl, trivial⟩) ?_
  intro q hq
  have hll : m.entries.length ≤ 4194304 := hm.2.2.2.2.2.2.2.2.2.2.2.1.1
  repeat'
    (conv => arg 2; whnf)
    first
    | refine okAsk (by kernel_rfl) ?_
    | refine okBrT ?_
    | refine okBrF ?_
    | refine okLt' (fun hlt => ?_) (fun hge => ?_)
    | refine okNthMap (by simpa using hlt) (fun x hx => ?_)
    | refine okWr (wNum_s [x.view, x.seq] (by simp)) (by have := fm_at entryB hx; simp only [entryB, List.length_append, List.length_map] at hl this ⊢; omega) ⟨⟨rfl, rfl⟩, trivial⟩ (Cos.refl _) rfl ?_
    | refine okWr (wBatch_s x.batch (hm.2.2.2.2.2.2.2.2.2.2.2.1.2 x (List.mem_of_getElem? hx)).2.2.1) (by have := fm_at entryB hx; simp only [entryB, List.length_append, List.length_map] at hl this ⊢; omega) ⟨⟨rfl, rfl⟩, trivial⟩ (Cos.refl _) rfl ?_
    | refine okWr (wSign_s x.sign) (by have := fm_at entryB hx; simp only [entryB, List.length_append, List.length_map] at hl this ⊢; omega) ⟨⟨rfl, rfl⟩, trivial⟩ (Cos.refl _) rfl ?_
    | refine okWrap (w64 (by simp at hlt; omega) (by simp at hlt; omega)) ?_
    | refine okAgain (q + 1) (Sv.mk' [0, 1] rfl ⟨⟨rfl, by rw [List.take_add_one, hx]; simp [entryB]; rfl⟩, ⟨rfl, rfl⟩, trivial⟩ ⟨rfl, rfl, rfl, rfl, rfl, trivial⟩) ?_ ?_
    | refine okOut ?_
    | refine endWr0 (.inl rfl) rfl ⟨⟨rfl, rfl⟩, trivial⟩ (.refl _) ?_
  · simp at hlt; omega
  · simp at hlt; omega
  · rw [show m.entries.take q = m.entries from List.take_of_length_le (by simpa using hge)]
    simp
end Go.Proofs.YtafomdobfmmleaaGreatDoor

/- The writer of package message over a message that may be, without its signature. -/
namespace Go.Proofs.YtafomdobfmmleaaGreatDoor
open Go.RowKit
set_option linter.unusedVariables false

theorem rangeE_z {n a b : Int} (h : rangeE n a b = 0) : a ≤ n ∧ n ≤ b := by
  unfold rangeE at h
  split at h
  · cases h
  · omega
theorem kind_is {m : MsgD} (h : kindE m = 0) : m.kind = 1 ∨ m.kind = 2 ∨ m.kind = 3 ∨ m.kind = 4 ∨ m.kind = 5 ∨ m.kind = 6 ∨ m.kind = 7 ∨ m.kind = 8 ∨ m.kind = 9 ∨ m.kind = 10 ∨ m.kind = 11 ∨ m.kind = 12 := by
  unfold kindE at h
  repeat' split at h
  all_goals omega
theorem kind_eta (m : MsgD) {k : Int} (h : m.kind = k) : ({ m with kind := k } : MsgD) = m := by
  subst h
  rfl
theorem wUns_s [Wd] (m : MsgD) (hm : dMsg.ok m) (h0 : kindE m = 0) (hl : (unsB m).length + 200 ≤ big) : FnS Tryz.prog 158 [.ptr 0 0, .agg (cMsg m)] [.cells 220 [.nils]] (fun r h => r = .tup [] ∧ h = oW (unsB m)) := by
  have h5 : m.kind = 5 → (0 ≤ m.result.err ∧ m.result.err ≤ 9223372036854775807) ∧ (0 ≤ m.result.offset ∧ m.result.offset ≤ 9223372036854775807) := fun hk => by
    simp only [kindE, hk] at h0
    simp [orE_zero] at h0
    obtain ⟨_, _, _, _, e1, e2⟩ := h0
    have := rangeE_z e1
    have := rangeE_z (show rangeE m.result.offset 0 9007199254740992 = 0 from e2)
    omega
  have h7 : m.kind = 7 → ∃ c, m.changes[0]? = some c := fun hk => by
    simp only [kindE, hk] at h0
    simp [orE_zero] at h0
    have := rangeE_z h0.1
    exact ⟨_, List.getElem?_eq_getElem (by omega)⟩
  rcases kind_is h0 with hk | hk | hk | hk | hk | hk | hk | hk | hk | hk | hk | hk
  · have u : unsB m = encI 1 ++ (batchP m.batch) := by simp [unsB, tailB, hk]
    rw [u] at hl ⊢
    have r := wUns1_s m hm hl
    rwa [kind_eta m hk] at r
  · have u : unsB m = encI 2 ++ (numsB [m.src, m.view, m.seq, m.digest] ++ batchP m.batch) := by simp [unsB, tailB, hk]
    rw [u] at hl ⊢
    have r := wUns2_s m hm hl
    rwa [kind_eta m hk] at r
  · have u : unsB m = encI 3 ++ (numsB [m.src, m.view, m.seq, m.digest]) := by simp [unsB, tailB, hk]
    rw [u] at hl ⊢
    have r := wUns3_s m hm hl
    rwa [kind_eta m hk] at r
  · have u : unsB m = encI 4 ++ (numsB [m.src, m.view, m.seq, m.digest]) := by simp [unsB, tailB, hk]
    rw [u] at hl ⊢
    have r := wUns4_s m hm hl
    rwa [kind_eta m hk] at r
  · have u : unsB m = encI 5 ++ (numsB [m.src, m.view, m.client, m.time] ++ resultB m.result) := by simp [unsB, tailB, hk]
    rw [u] at hl ⊢
    have r := wUns5_s m hm (h5 hk) hl
    rwa [kind_eta m hk] at r
  · have u : unsB m = encI 6 ++ (numsB [m.src, m.seq, m.digest]) := by simp [unsB, tailB, hk]
    rw [u] at hl ⊢
    have r := wUns6_s m hm hl
    rwa [kind_eta m hk] at r
  · obtain ⟨c, hc⟩ := h7 hk
    obtain ⟨r, hr⟩ : ∃ r, m.changes = c :: r := by
      cases hx : m.changes with
      | nil => rw [hx] at hc; cases hc
      | cons d r => rw [hx] at hc; cases hc; exact ⟨r, rfl⟩
    have u : unsB m = encI 7 ++ (bodyC c) := by simp [unsB, tailB, hk, hr]
    rw [u] at hl ⊢
    have r := wUns7_s m hm hc hl
    rwa [kind_eta m hk] at r
  · have u : unsB m = encI 8 ++ (numsB [m.src, m.view] ++ encI (m.changes.length : Int) ++ m.changes.flatMap chgB ++ encI (m.entries.length : Int) ++ m.entries.flatMap entryB) := by simp [unsB, tailB, hk]
    rw [u] at hl ⊢
    have r := wUns8_s m hm hl
    rwa [kind_eta m hk] at r
  · have u : unsB m = encI 9 ++ (numsB [m.src, m.seq]) := by simp [unsB, tailB, hk]
    rw [u] at hl ⊢
    have r := wUns9_s m hm hl
    rwa [kind_eta m hk] at r
  · have u : unsB m = encI 10 ++ (numsB [m.src] ++ certB m.cert ++ byF m.state) := by simp [unsB, tailB, hk]
    rw [u] at hl ⊢
    have r := wUns10_s m hm hl
    rwa [kind_eta m hk] at r
  · have u : unsB m = encI 11 ++ (numsB [m.client] ++ byF m.topic ++ numsB [m.offset]) := by simp [unsB, tailB, hk]
    rw [u] at hl ⊢
    have r := wUns11_s m hm hl
    rwa [kind_eta m hk] at r
  · have u : unsB m = encI 12 ++ (numsB [m.src] ++ proofB m.proof) := by simp [unsB, tailB, hk]
    rw [u] at hl ⊢
    have r := wUns12_s m hm hl
    rwa [kind_eta m hk] at r
end Go.Proofs.YtafomdobfmmleaaGreatDoor

/- The asker of package message over data: names, certificates, prepared batches, changes, proofs, votes, new views. -/
namespace Go.Proofs.YtafomdobfmmleaaGreatDoor
open Go.RowKit
set_option linter.unusedVariables false
set_option maxRecDepth 20000

theorem name_s [Wd] (s : List UInt8) (hs : s.length ≤ 4194304) : FnP Tryz.prog 27 [.str s] (.bool (nameF s)) :=
  FnS.old (v := .bool (nameF s)) (fun _ _ => .bool _) (by kernel_rfl) (fun w I vs hv => by
    obtain ⟨v, rfl, h⟩ := hv.one_inv
    cases h
    exact name_c w s hs) rfl
theorem cBatch_s [Wd] (l : List SignedD) (hl : (dL dSigned).ok l) : FnP Tryz.prog 296 [.list 9 (l.map cSigned)] (.int .i64 (batchE l)) :=
  FnS.old (v := .int .i64 (batchE l)) (fun _ _ => .int _ _) (by kernel_rfl) (fun w I vs hv => by
    obtain ⟨v, rfl, h⟩ := Drs.one_inv hv
    exact batchE_c ((LkL LkSigned).of hv hl)) rfl
theorem askName_s [Wd] (s : List UInt8) (hs : s.length ≤ 4194304) : FnAsk 305 [.str s] (nameE s) := by
  intro e
  refine mkS 9 [] Tryz.func305 rfl (by kernel_rfl) ?_
  repeat'
    (conv => arg 2; whnf)
    first
    | refine okBrT ?_
    | refine okBrF ?_
    | refine okBr (fun h => ?_) (fun h => ?_)
    | refine okFn (name_s s hs) rfl (Cos.refl _) ?_
    | refine okAskr 0 (says_s _) ⟨⟨rfl, rfl⟩, trivial⟩ (Cos.refl _) rfl ?_
    | refine endAsk [0] (.inl rfl) rfl rfl ⟨⟨rfl, rfl⟩, trivial⟩ ⟨⟨rfl, rfl⟩, trivial⟩ (.refl _) ?_
  all_goals simp_all [nameE, orE_z]
theorem askCert_s [Wd] (c : CertD) (hc : dCert.ok c) : FnAsk 303 [.agg (cCert c)] (certE c) := by
  intro e
  refine mkS 36 [] Tryz.func303 rfl (by kernel_rfl) ?_
  repeat'
    (conv => arg 2; whnf)
    first
    | refine okBrT ?_
    | refine okBrF ?_
    | refine okBr (fun h => ?_) (fun h => ?_)
    | refine okAsk (by kernel_rfl) ?_
    | refine okAskr 0 (askNum_s _) ⟨⟨rfl, rfl⟩, trivial⟩ (Cos.refl _) rfl ?_
    | refine okAskr 0 (says_s _) ⟨⟨rfl, rfl⟩, trivial⟩ (Cos.refl _) rfl ?_
    | refine okAskr 0 (askSigns_s c.signs hc.2.2.1) ⟨⟨rfl, rfl⟩, trivial⟩ (Cos.refl _) rfl ?_
    | refine endAsk [0] (.inl rfl) rfl rfl ⟨⟨rfl, rfl⟩, trivial⟩ ⟨⟨rfl, rfl⟩, trivial⟩ (.refl _) ?_
  all_goals
    simp only [certE, orE_assoc]
    by_cases h1 : c.seq = 0 <;> by_cases h2 : c.digest = 0 <;> by_cases h3 : 0 < c.signs.length <;> simp_all [z_orE, show ∀ a b : Int, (a == b) = decide (a = b) from fun _ _ => rfl]
theorem askPrep_s [Wd] (p : PreparedD) (hp : dPrepared.ok p) : FnAsk 317 [.agg (cPrepared p)] (prepE p) := by
  intro e
  refine mkS 30 [] Tryz.func317 rfl (by kernel_rfl) ?_
  repeat'
    (conv => arg 2; whnf)
    first
    | refine okAsk (by kernel_rfl) ?_
    | refine okAskr 0 (askNum_s _) ⟨⟨rfl, rfl⟩, trivial⟩ (Cos.refl _) rfl ?_
    | refine okAskr 0 (askPos_s _) ⟨⟨rfl, rfl⟩, trivial⟩ (Cos.refl _) rfl ?_
    | refine okAskr 0 (says_s _) ⟨⟨rfl, rfl⟩, trivial⟩ (Cos.refl _) rfl ?_
    | refine okAskr 0 (askSigns_s p.signs hp.2.2.2.2.1.1) ⟨⟨rfl, rfl⟩, trivial⟩ (Cos.refl _) rfl ?_
    | refine okFn (cSign_s p.firstS) rfl (Cos.refl _) ?_
    | refine okFn (cBatch_s p.batch hp.2.2.2.2.2) rfl (Cos.refl _) ?_
    | refine endAsk [0] (.inl rfl) rfl rfl ⟨⟨rfl, rfl⟩, trivial⟩ ⟨⟨rfl, rfl⟩, trivial⟩ (.refl _) ?_
  all_goals simp only [prepE, orE_assoc]
theorem askVote_s [Wd] (m : MsgD) : FnAsk 297 [.agg (cMsg m)] (voteE m) := by
  intro e
  refine mkS 20 [] Tryz.func297 rfl (by kernel_rfl) ?_
  repeat'
    (conv => arg 2; whnf)
    first
    | refine okAskr 0 (askBroker_s _) ⟨⟨rfl, rfl⟩, trivial⟩ (Cos.refl _) rfl ?_
    | refine okAskr 0 (askNum_s _) ⟨⟨rfl, rfl⟩, trivial⟩ (Cos.refl _) rfl ?_
    | refine okAskr 0 (askPos_s _) ⟨⟨rfl, rfl⟩, trivial⟩ (Cos.refl _) rfl ?_
    | refine endAsk [0] (.inl rfl) rfl rfl ⟨⟨rfl, rfl⟩, trivial⟩ ⟨⟨rfl, rfl⟩, trivial⟩ (.refl _) ?_
  all_goals simp only [voteE, orE_assoc]
-- PRINTED by gen_ac.py
theorem askChange_s [Wd] (c : ChangeD) (hc : dChange.ok c) : FnAsk 301 [.agg (cChange c)] (chgE c) := by
  intro e
  refine mkS 39 [] Tryz.func301 rfl (by kernel_rfl) ?_
  repeat'
    (conv => arg 2; whnf)
    first
    | refine okAskr 0 (askPos_s _) ⟨⟨rfl, rfl⟩, trivial⟩ (Cos.refl _) rfl ?_
    | refine okAskr 0 (askBroker_s _) ⟨⟨rfl, rfl⟩, trivial⟩ (Cos.refl _) rfl ?_
    | refine okAskr 0 (askCert_s c.cert hc.2.2.1) ⟨⟨rfl, rfl⟩, trivial⟩ (Cos.refl _) rfl ?_
    | refine okAskr 0 (askMany_s _ _) ⟨⟨rfl, rfl⟩, trivial⟩ (Cos.refl _) rfl ?_
  conv => arg 2; whnf
  refine okLoop (α := Nat × Int) (fun a => ⟨[(26, .int .i64 a.1), (25, .int .i64 (c.above.map cPrepared).length), (24, .list 7 (c.above.map cPrepared)), (3, .ptr 1 0), (0, .ptr 0 0)], [.cells 320 [.int .i64 a.2], .cells 145 (cChange c)]⟩) (fun a => a.1 ≤ c.above.length ∧ a.2 = orE (orE (orE (orE (orE e (posE c.view)) (brokE c.src)) (certE c.cert)) (manyE c.above.length 8)) (listE prepE (c.above.take a.1))) (fun a => c.above.length - a.1) (0, orE (orE (orE (orE e (posE c.view)) (brokE c.src)) (certE c.cert)) (rangeE ((c.above.map cPrepared).length : Nat) 0 8)) ⟨Nat.zero_le _, by simp [listE, orE_z, manyE]⟩ (Sv.mk' [0, 1] rfl ⟨⟨rfl, rfl⟩, ⟨rfl, rfl⟩, trivial⟩ ⟨rfl, rfl, rfl, rfl, rfl, trivial⟩) ?_
  rintro ⟨q, e'⟩ ⟨hq, he⟩
  have hl : c.above.length ≤ 4194304 := hc.2.2.2.1.1
  repeat'
    (conv => arg 2; whnf)
    first
    | refine okBrT ?_
    | refine okBrF ?_
    | refine okBr (fun h => ?_) (fun h => ?_)
    | refine okNthMap (by simpa using h) (fun x hx => ?_)
    | refine okAskr 0 (askPrep_s x (hc.2.2.2.1.2 x (List.mem_of_getElem? hx))) ⟨⟨rfl, rfl⟩, trivial⟩ (Cos.refl _) rfl ?_
    | refine okFn (cSign_s c.sign) rfl (Cos.refl _) ?_
    | refine okAskr 0 (says_s _) ⟨⟨rfl, rfl⟩, trivial⟩ (Cos.refl _) rfl ?_
    | refine okWrap (w64 (by simp at h hq; omega) (by simp at h hq; omega)) ?_
    | refine okAgain (q + 1, _) (Sv.mk' [0, 1] rfl ⟨⟨rfl, rfl⟩, ⟨rfl, rfl⟩, trivial⟩ ⟨rfl, rfl, rfl, rfl, rfl, trivial⟩) ⟨?_, ?_⟩ ?_
    | refine okOut ?_
    | refine endAsk [0] (.inl rfl) rfl rfl ⟨⟨rfl, rfl⟩, trivial⟩ ⟨⟨rfl, rfl⟩, trivial⟩ (.refl _) ?_
  · show q + 1 ≤ c.above.length
    simp at h; omega
  · show orE e' (prepE x) = _
    rw [listE_at prepE hx, ← orE_assoc, ← he]
    try simp only [prepE, orE_assoc]
  · simp at h ⊢; omega
  · rw [he, show c.above.take q = c.above from List.take_of_length_le (by simp at h; omega)]
    simp only [chgE, orE_assoc]
theorem askNew_s [Wd] (m : MsgD) (hm : dMsg.ok m) : FnAsk 302 [.agg (cMsg m)] (newE m) := by
  intro e
  refine mkS 63 [] Tryz.func302 rfl (by kernel_rfl) ?_
  repeat'
    (conv => arg 2; whnf)
    first
    | refine okAskr 0 (askBroker_s _) ⟨⟨rfl, rfl⟩, trivial⟩ (Cos.refl _) rfl ?_
    | refine okAskr 0 (askPos_s _) ⟨⟨rfl, rfl⟩, trivial⟩ (Cos.refl _) rfl ?_
    | refine okAskr 0 (askMany_s _ _) ⟨⟨rfl, rfl⟩, trivial⟩ (Cos.refl _) rfl ?_
  conv => arg 2; whnf
  refine okLoop (α := Nat × Int) (fun a => ⟨[(24, .int .i64 a.1), (23, .int .i64 (m.changes.map cChange).length), (22, .list 8 (m.changes.map cChange)), (3, .ptr 1 0), (0, .ptr 0 0)], [.cells 320 [.int .i64 a.2], .cells 59 (cMsg m)]⟩) (fun a => a.1 ≤ m.changes.length ∧ a.2 = orE (orE (orE (orE e (brokE m.src)) (posE m.view)) (manyE m.changes.length 13)) (listE chgE (m.changes.take a.1))) (fun a => m.changes.length - a.1) (0, orE (orE (orE e (brokE m.src)) (posE m.view)) (rangeE ((m.changes.map cChange).length : Nat) 0 13)) ⟨Nat.zero_le _, by simp [listE, orE_z, manyE]⟩ (Sv.mk' [0, 1] rfl ⟨⟨rfl, rfl⟩, ⟨rfl, rfl⟩, trivial⟩ ⟨rfl, rfl, rfl, rfl, rfl, trivial⟩) ?_
  rintro ⟨q, e'⟩ ⟨hq, he⟩
  have hl : m.changes.length ≤ 4194304 := hm.2.2.2.2.2.2.2.2.2.2.1.1
  repeat'
    (conv => arg 2; whnf)
    first
    | refine okBrT ?_
    | refine okBrF ?_
    | refine okBr (fun h => ?_) (fun h => ?_)
    | refine okNthMap (by simpa using h) (fun x hx => ?_)
    | refine okAskr 0 (askChange_s x (hm.2.2.2.2.2.2.2.2.2.2.1.2 x (List.mem_of_getElem? hx))) ⟨⟨rfl, rfl⟩, trivial⟩ (Cos.refl _) rfl ?_
    | refine okAskr 0 (askMany_s _ _) ⟨⟨rfl, rfl⟩, trivial⟩ (Cos.refl _) rfl ?_
    | refine okWrap (w64 (by simp at h hq; omega) (by simp at h hq; omega)) ?_
    | refine okAgain (q + 1, _) (Sv.mk' [0, 1] rfl ⟨⟨rfl, rfl⟩, ⟨rfl, rfl⟩, trivial⟩ ⟨rfl, rfl, rfl, rfl, rfl, trivial⟩) ⟨?_, ?_⟩ ?_
    | refine okOut ?_
  · show q + 1 ≤ m.changes.length
    simp at h; omega
  · show orE e' (chgE x) = _
    rw [listE_at chgE hx, ← orE_assoc, ← he]
    try simp only [chgE, orE_assoc]
  · simp at h ⊢; omega
  rw [show m.changes.take q = m.changes from List.take_of_length_le (by simp at h; omega)] at he
  replace he : e' = _ := he
  clear hq h hl
  generalize hE : e' = e1 at he
  clear hE e'
  conv => arg 2; whnf
  refine okLoop (α := Nat × Int) (fun a => ⟨[(40, .int .i64 a.1), (39, .int .i64 (m.entries.map cEntry).length), (38, .list 5 (m.entries.map cEntry)), (3, .ptr 1 0), (0, .ptr 0 0)], [.cells 320 [.int .i64 a.2], .cells 59 (cMsg m)]⟩) (fun a => a.1 ≤ m.entries.length ∧ a.2 = orE (orE (e1) (manyE m.entries.length 8)) (listE entryE (m.entries.take a.1))) (fun a => m.entries.length - a.1) (0, orE (e1) (rangeE ((m.entries.map cEntry).length : Nat) 0 8)) ⟨Nat.zero_le _, by simp [listE, orE_z, manyE]⟩ (Sv.mk' [0, 1] rfl ⟨⟨rfl, rfl⟩, ⟨rfl, rfl⟩, trivial⟩ ⟨rfl, rfl, rfl, rfl, rfl, trivial⟩) ?_
  rintro ⟨q, e'⟩ ⟨hq, he2⟩
  have hl : m.entries.length ≤ 4194304 := hm.2.2.2.2.2.2.2.2.2.2.2.1.1
  repeat'
    (conv => arg 2; whnf)
    first
    | refine okBrT ?_
    | refine okBrF ?_
    | refine okBr (fun h => ?_) (fun h => ?_)
    | refine okNthMap (by simpa using h) (fun x hx => ?_)
    | refine okAskr 0 (askNum_s _) ⟨⟨rfl, rfl⟩, trivial⟩ (Cos.refl _) rfl ?_
    | refine okAskr 0 (askPos_s _) ⟨⟨rfl, rfl⟩, trivial⟩ (Cos.refl _) rfl ?_
    | refine okFn (cBatch_s x.batch (hm.2.2.2.2.2.2.2.2.2.2.2.1.2 x (List.mem_of_getElem? hx)).2.2.1) rfl (Cos.refl _) ?_
    | refine okFn (cSign_s x.sign) rfl (Cos.refl _) ?_
    | refine okAskr 0 (says_s _) ⟨⟨rfl, rfl⟩, trivial⟩ (Cos.refl _) rfl ?_
    | refine okWrap (w64 (by simp at h hq; omega) (by simp at h hq; omega)) ?_
    | refine okAgain (q + 1, orE (orE (orE (orE e' (numE x.view)) (posE x.seq)) (batchE x.batch)) (signE x.sign)) (Sv.mk' [0, 1] rfl ⟨⟨rfl, rfl⟩, ⟨rfl, rfl⟩, trivial⟩ ⟨rfl, rfl, rfl, rfl, rfl, trivial⟩) ⟨?_, ?_⟩ ?_
    | refine okOut ?_
    | refine endAsk [0] (.inl rfl) rfl rfl ⟨⟨rfl, rfl⟩, trivial⟩ ⟨⟨rfl, rfl⟩, trivial⟩ (.refl _) ?_
  · show q + 1 ≤ m.entries.length
    simp at h; omega
  · show orE (orE (orE (orE e' (numE x.view)) (posE x.seq)) (batchE x.batch)) (signE x.sign) = _
    rw [listE_at entryE hx, ← orE_assoc, ← he2]
    try simp only [entryE, orE_assoc]
  · simp at h ⊢; omega
  · rw [he2, show m.entries.take q = m.entries from List.take_of_length_le (by simp at h; omega), he]
    simp only [newE, orE_assoc]
end Go.Proofs.YtafomdobfmmleaaGreatDoor

/- The asker of package message over proofs and messages (printed by gen_ad.py). -/
namespace Go.Proofs.YtafomdobfmmleaaGreatDoor
open Go.RowKit
set_option linter.unusedVariables false
set_option maxRecDepth 20000

theorem wrapE (a i c : Int) : orE (orE a (rangeE c 0 16)) (rangeE i 0 (IntKind.i64.wrap (c - 1))) = orE (orE a (rangeE c 0 16)) (rangeE i 0 (c - 1)) := by
  by_cases h : 0 ≤ c ∧ c ≤ 16
  · rw [w64 (by omega) (by omega)]
  · have h0 : rangeE c 0 16 ≠ 0 := by unfold rangeE; split <;> omega
    have h1 : orE a (rangeE c 0 16) ≠ 0 := by unfold orE; split <;> assumption
    have h2 : ∀ x, orE (orE a (rangeE c 0 16)) x = orE a (rangeE c 0 16) := fun x => by rw [orE, if_neg h1]
    rw [h2, h2]
theorem askProof_s [Wd] (p : ProofD) (hp : dProof.ok p) : FnAsk 306 [.agg (cProof p)] (proofE p) := by
  intro e
  refine mkS 93 [] Tryz.func306 rfl (by kernel_rfl) ?_
  repeat'
    (conv => arg 2; whnf)
    first
    | refine okAskr 0 (askName_s p.topic hp.1) ⟨⟨rfl, rfl⟩, trivial⟩ (Cos.refl _) rfl ?_
    | refine okAskr 0 (askNum_s _) ⟨⟨rfl, rfl⟩, trivial⟩ (Cos.refl _) rfl ?_
    | refine okAskr 0 (askMany_s _ _) ⟨⟨rfl, rfl⟩, trivial⟩ (Cos.refl _) rfl ?_
  conv => arg 2; whnf
  refine okLoop (α := Nat × Int) (fun a => ⟨[(31, .int .i64 a.1), (30, .int .i64 (p.headers.map cHeader).length), (29, .list 5 (p.headers.map cHeader)), (3, .ptr 1 0), (0, .ptr 0 0)], [.cells 320 [.int .i64 a.2], .cells 55 (cProof p)]⟩) (fun a => a.1 ≤ p.headers.length ∧ a.2 = orE (orE (orE (orE (orE e (nameE p.topic)) (numE p.offset)) (rangeE ((p.record.map cByte).length : Nat) 0 64)) (manyE p.headers.length 64)) (listE headE (p.headers.take a.1))) (fun a => p.headers.length - a.1) (0, orE (orE (orE (orE e (nameE p.topic)) (numE p.offset)) (rangeE ((p.record.map cByte).length : Nat) 0 64)) (rangeE ((p.headers.map cHeader).length : Nat) 0 64)) ⟨Nat.zero_le _, by simp [listE, orE_z, manyE]⟩ (Sv.mk' [0, 1] rfl ⟨⟨rfl, rfl⟩, ⟨rfl, rfl⟩, trivial⟩ ⟨rfl, rfl, rfl, rfl, rfl, trivial⟩) ?_
  rintro ⟨q, e'⟩ ⟨hq, he⟩
  have hl : p.headers.length ≤ 4194304 := hp.2.2.2.1.1
  repeat'
    (conv => arg 2; whnf)
    first
    | refine okBrT ?_
    | refine okBrF ?_
    | refine okBr (fun h => ?_) (fun h => ?_)
    | refine okNthMap (by simpa using h) (fun x hx => ?_)
    | refine okAskr 0 (askPos_s _) ⟨⟨rfl, rfl⟩, trivial⟩ (Cos.refl _) rfl ?_
    | refine okAskr 0 (askNum_s _) ⟨⟨rfl, rfl⟩, trivial⟩ (Cos.refl _) rfl ?_
    | refine okAskr 0 (askMany_s _ _) ⟨⟨rfl, rfl⟩, trivial⟩ (Cos.refl _) rfl ?_
    | refine okAskr 0 (ask_s _ _ _) ⟨⟨rfl, rfl⟩, trivial⟩ (Cos.refl _) rfl ?_
    | refine okOut ?_
    | refine okRaw ?_
  case refine_1 =>
    have hh := h
    clear h
    conv => arg 2; whnf
    refine okLoop (α := Nat × Int) (fun a => ⟨[(49, .int .i64 a.1), (48, .int .i64 ([x.prev, x.batch, x.root, x.state].map cNum).length), (47, .list 1 ([x.prev, x.batch, x.root, x.state].map cNum)), (31, .int .i64 q), (30, .int .i64 (p.headers.map cHeader).length), (29, .list 5 (p.headers.map cHeader)), (3, .ptr 1 0), (0, .ptr 0 0)], [.cells 320 [.int .i64 a.2], .cells 55 (cProof p)]⟩) (fun a => a.1 ≤ 4 ∧ a.2 = orE (orE e' (posE x.seq)) (listE numE ([x.prev, x.batch, x.root, x.state].take a.1))) (fun a => 4 - a.1) (0, orE e' (posE x.seq)) ⟨Nat.zero_le _, by simp [listE, orE_z]⟩ (Sv.mk' [0, 1] rfl ⟨⟨rfl, rfl⟩, ⟨rfl, rfl⟩, trivial⟩ ⟨rfl, rfl, rfl, rfl, rfl, rfl, rfl, rfl, trivial⟩) ?_
    rintro ⟨i, e2⟩ ⟨hi, he2⟩
    repeat'
      (conv => arg 2; whnf)
      first
      | refine okBrT ?_
      | refine okBrF ?_
      | refine okBr (fun h => ?_) (fun h => ?_)
      | refine okNthMap (by simp at h ⊢; omega) (fun y hy => ?_)
      | refine okAskr 0 (askNum_s _) ⟨⟨rfl, rfl⟩, trivial⟩ (Cos.refl _) rfl ?_
      | refine okWrap (w64 (by simp at h hi; omega) (by simp at h hi; omega)) ?_
      | refine okAgain (i + 1, _) (Sv.mk' [0, 1] rfl ⟨⟨rfl, rfl⟩, ⟨rfl, rfl⟩, trivial⟩ ⟨rfl, rfl, rfl, rfl, rfl, rfl, rfl, rfl, trivial⟩) ⟨?_, ?_⟩ ?_
      | refine okOut ?_
      | refine okWrap (w64 (by simp at hh hq; omega) (by simp at hh hq; omega)) ?_
      | refine okAgain (q + 1, _) (Sv.mk' [0, 1] rfl ⟨⟨rfl, rfl⟩, ⟨rfl, rfl⟩, trivial⟩ ⟨rfl, rfl, rfl, rfl, rfl, trivial⟩) ⟨?_, ?_⟩ ?_
    · show i + 1 ≤ 4
      simp at h; omega
    · show orE e2 (numE y) = _
      rw [listE_at numE hy, ← orE_assoc, ← he2]
    · simp at h ⊢; omega
    · show q + 1 ≤ p.headers.length
      simp at hh; omega
    · show e2 = _
      rw [show i = 4 by simp at h hi; omega] at he2
      have he3 : e2 = orE (orE e' (posE x.seq)) (listE numE [x.prev, x.batch, x.root, x.state]) := he2
      rw [listE_at headE hx, ← orE_assoc, ← he, he3]
      simp only [headE, listE, orE_z, orE_assoc]
    · simp at hh ⊢; omega
  rw [show p.headers.take q = p.headers from List.take_of_length_le (by simp at h; omega)] at he
  replace he : e' = _ := he
  clear hq h hl
  generalize hE : e' = e1 at he
  clear hE e'
  conv => arg 2; whnf
  refine okLoop (α := Nat × Int) (fun a => ⟨[(81, .int .i64 a.1), (80, .int .i64 (p.path.map cNum).length), (79, .list 1 (p.path.map cNum)), (3, .ptr 1 0), (0, .ptr 0 0)], [.cells 320 [.int .i64 a.2], .cells 55 (cProof p)]⟩) (fun a => a.1 ≤ p.path.length ∧ a.2 = orE (orE (orE (orE (orE e1 (numE p.index)) (rangeE p.count 0 16)) (rangeE p.index 0 (IntKind.i64.wrap (p.count - 1)))) (rangeE ((p.path.map cNum).length : Nat) 0 8)) (listE numE (p.path.take a.1))) (fun a => p.path.length - a.1) (0, orE (orE (orE (orE e1 (numE p.index)) (rangeE p.count 0 16)) (rangeE p.index 0 (IntKind.i64.wrap (p.count - 1)))) (rangeE ((p.path.map cNum).length : Nat) 0 8)) ⟨Nat.zero_le _, by simp [listE, orE_z]⟩ (Sv.mk' [0, 1] rfl ⟨⟨rfl, rfl⟩, ⟨rfl, rfl⟩, trivial⟩ ⟨rfl, rfl, rfl, rfl, rfl, trivial⟩) ?_
  rintro ⟨q, e'⟩ ⟨hq, he2⟩
  have hl : p.path.length ≤ 4194304 := hp.2.2.2.2.2.2.1.1
  repeat'
    (conv => arg 2; whnf)
    first
    | refine okBrT ?_
    | refine okBrF ?_
    | refine okBr (fun h => ?_) (fun h => ?_)
    | refine okNthMap (by simpa using h) (fun x hx => ?_)
    | refine okAskr 0 (askNum_s _) ⟨⟨rfl, rfl⟩, trivial⟩ (Cos.refl _) rfl ?_
    | refine okAskr 0 (askCert_s p.cert hp.2.2.2.2.2.2.2) ⟨⟨rfl, rfl⟩, trivial⟩ (Cos.refl _) rfl ?_
    | refine okWrap (w64 (by simp at h hq; omega) (by simp at h hq; omega)) ?_
    | refine okAgain (q + 1, _) (Sv.mk' [0, 1] rfl ⟨⟨rfl, rfl⟩, ⟨rfl, rfl⟩, trivial⟩ ⟨rfl, rfl, rfl, rfl, rfl, trivial⟩) ⟨?_, ?_⟩ ?_
    | refine okOut ?_
    | refine endAsk [0] (.inl rfl) rfl rfl ⟨⟨rfl, rfl⟩, trivial⟩ ⟨⟨rfl, rfl⟩, trivial⟩ (.refl _) ?_
  · show q + 1 ≤ p.path.length
    simp at h; omega
  · show orE e' (numE x) = _
    rw [listE_at numE hx, ← orE_assoc, ← he2]
    try simp only [numE, orE_assoc]
  · simp at h ⊢; omega
  · rw [he2, wrapE, show p.path.take q = p.path from List.take_of_length_le (by simp at h; omega), he]
    simp only [proofE, manyE, List.length_map, orE_assoc]
end Go.Proofs.YtafomdobfmmleaaGreatDoor

/- The asker of package message over messages; message.bare; message.Check (printed by gen_ae.py). -/
namespace Go.Proofs.YtafomdobfmmleaaGreatDoor
open Go.RowKit
set_option linter.unusedVariables false
set_option maxRecDepth 20000

theorem okLt [Wd] {P : Program} {Q : Exit → S → Prop} {a b : Nat} {t f : T} (h1 : a < b → t.ok P Q) (h2 : b ≤ a → f.ok P Q) : (T.br (decide ((a : Int) < (b : Int))) t f).ok P Q :=
  ⟨fun h => h1 (by simpa using h), fun h => h2 (by simpa using h)⟩
theorem signed_s [Wd] (k : Int) : FnP Tryz.prog 156 [.int .i64 k] (.bool (signedK k)) :=
  FnS.old (v := .bool (signedK k)) (fun _ _ => .bool _) (by kernel_rfl) (fun w I vs hv => by
    obtain ⟨v, rfl, h⟩ := hv.one_inv
    cases h
    exact mSigned_c) rfl
set_option maxHeartbeats 4000000 in
theorem askMsg_s [Wd] (m : MsgD) (hm : dMsg.ok m) : FnAsk 261 [.agg (cMsg m)] (msgE m) := by
  intro e
  refine mkS 174 [] Tryz.func261 rfl (by kernel_rfl) ?_
  repeat'
    first
    | (rintro ⟨q, e'⟩ ⟨hq, he⟩)
    | ((conv => arg 2; whnf)
       first
       | refine okBrT ?_
       | refine okBrF ?_
       | refine okLt (fun hlt => ?_) (fun hge => ?_)
       | refine okBr (fun h => ?_) (fun h => ?_)
       | refine okNthMap (by simpa using hlt) (fun x hx => ?_)
       | refine okAskr 0 (ask_s _ _ _) ⟨⟨rfl, rfl⟩, trivial⟩ (Cos.refl _) rfl ?_
       | refine okAskr 0 (askNum_s _) ⟨⟨rfl, rfl⟩, trivial⟩ (Cos.refl _) rfl ?_
       | refine okAskr 0 (askPos_s _) ⟨⟨rfl, rfl⟩, trivial⟩ (Cos.refl _) rfl ?_
       | refine okAskr 0 (askBroker_s _) ⟨⟨rfl, rfl⟩, trivial⟩ (Cos.refl _) rfl ?_
       | refine okAskr 0 (askMany_s _ _) ⟨⟨rfl, rfl⟩, trivial⟩ (Cos.refl _) rfl ?_
       | refine okAskr 0 (says_s _) ⟨⟨rfl, rfl⟩, trivial⟩ (Cos.refl _) rfl ?_
       | refine okAskr 0 (askVote_s m) ⟨⟨rfl, rfl⟩, trivial⟩ (Cos.refl _) rfl ?_
       | refine okAskr 0 (askNew_s m hm) ⟨⟨rfl, rfl⟩, trivial⟩ (Cos.refl _) rfl ?_
       | refine okAskr 0 (askCert_s m.cert hm.2.2.2.2.2.2.2.2.2.1) ⟨⟨rfl, rfl⟩, trivial⟩ (Cos.refl _) rfl ?_
       | refine okAskr 0 (askProof_s m.proof hm.2.2.2.2.2.2.2.2.2.2.2.2.2.2.2.1) ⟨⟨rfl, rfl⟩, trivial⟩ (Cos.refl _) rfl ?_
       | refine okAskr 0 (askName_s m.topic hm.2.2.2.2.2.2.2.2.2.2.2.2.2.1) ⟨⟨rfl, rfl⟩, trivial⟩ (Cos.refl _) rfl ?_
       | refine okAskr 0 (askChange_s x (hm.2.2.2.2.2.2.2.2.2.2.1.2 x (List.mem_of_getElem? hx))) ⟨⟨rfl, rfl⟩, trivial⟩ (Cos.refl _) rfl ?_
       | refine okFn (signed_s _) rfl (Cos.refl _) ?_
       | refine okFn (cSign_s m.sign) rfl (Cos.refl _) ?_
       | refine okFn (cBatch_s m.batch hm.2.2.2.2.2.2.2.2.1) rfl (Cos.refl _) ?_
       | refine okWrap (w64 (by simp at hlt hq; omega) (by have := hm.2.2.2.2.2.2.2.2.2.2.1.1; simp at hlt hq this; omega)) ?_
       | refine okAgain (q + 1, orE (orE e' (chgE x)) 100) (Sv.mk' [0, 1] rfl ⟨⟨rfl, rfl⟩, ⟨rfl, rfl⟩, trivial⟩ ⟨rfl, rfl, rfl, rfl, rfl, trivial⟩) ⟨?_, ?_⟩ ?_
       | refine okAgain (q + 1, orE e' (chgE x)) (Sv.mk' [0, 1] rfl ⟨⟨rfl, rfl⟩, ⟨rfl, rfl⟩, trivial⟩ ⟨rfl, rfl, rfl, rfl, rfl, trivial⟩) ⟨?_, ?_⟩ ?_
       | refine okOut ?_
       | refine okLoop (α := Nat × Int) (fun a => ⟨[(90, .int .i64 a.1), (89, .int .i64 (m.changes.map cChange).length), (88, .list 8 (m.changes.map cChange)), (3, .ptr 1 0), (0, .ptr 0 0)], [.cells 320 [.int .i64 a.2], .cells 59 (cMsg m)]⟩) (fun a => a.1 ≤ m.changes.length ∧ a.2 = orE (orE e (rangeE ((m.changes.map cChange).length : Nat) 1 1)) (listE (viewE m) (m.changes.take a.1))) (fun a => m.changes.length - a.1) (0, orE e (rangeE ((m.changes.map cChange).length : Nat) 1 1)) ⟨Nat.zero_le _, by simp [listE, orE_z]⟩ (Sv.mk' [0, 1] rfl ⟨⟨rfl, rfl⟩, ⟨rfl, rfl⟩, trivial⟩ ⟨rfl, rfl, rfl, rfl, rfl, trivial⟩) ?_
       | refine endAsk [0] (.inl rfl) rfl rfl ⟨⟨rfl, rfl⟩, trivial⟩ ⟨⟨rfl, rfl⟩, trivial⟩ (.refl _) ?_
      )
  all_goals first
    | (show q + 1 ≤ m.changes.length; simp at hlt; omega)
    | (show m.changes.length - (q + 1) < m.changes.length - q; simp at hlt; omega)
    | (show orE (orE e' (chgE x)) 100 = _; rw [listE_at (viewE m) hx, ← orE_assoc, ← he]; clear he; simp_all [viewE, orE_assoc])
    | (show orE e' (chgE x) = _; rw [listE_at (viewE m) hx, ← orE_assoc, ← he]; clear he; simp_all [viewE, orE_z])
    | (rw [he, List.take_of_length_le (by simpa using hge)]; clear he; simp_all [msgE, kindE, signedK, orE_assoc, orE_z])
    | simp_all [msgE, kindE, signedK, manyE, orE_assoc, orE_z]
end Go.Proofs.YtafomdobfmmleaaGreatDoor

/- message.bare. -/
namespace Go.Proofs.YtafomdobfmmleaaGreatDoor
open Go.RowKit
set_option linter.unusedVariables false
set_option maxRecDepth 20000

set_option maxHeartbeats 2000000 in
theorem bare_s [Wd] (x : MsgD) : FnP Tryz.prog 262 [.agg (cMsg x)] (.agg (cMsg (bareF x))) := by
  refine mkS 114 [] Tryz.func262 rfl (by kernel_rfl) ?_
  repeat'
    (conv => arg 2; whnf)
    first
    | refine okBrT ?_
    | refine okBrF ?_
    | refine okBr (fun h => ?_) (fun h => ?_)
    | refine okAsk (by kernel_rfl) ?_
    | refine okFn (signed_s _) rfl (Cos.refl _) ?_
  all_goals (refine endFn0 (.inr rfl) rfl (Cos.mkAgg ?_) rfl)
  all_goals simp only [beq_iff_eq, beq_eq_false_iff_ne, ne_eq] at *
  all_goals simp_all [bareF, signedK, cMsg, zMsg]
  all_goals (repeat' first | exact Cos.nil | exact Co.refl _ | exact Co.nil _ | refine Cos.cons ?_ ?_)
end Go.Proofs.YtafomdobfmmleaaGreatDoor

/- message.Check over data, and back. -/
namespace Go.Proofs.YtafomdobfmmleaaGreatDoor
open Go.RowKit
set_option linter.unusedVariables false
set_option maxRecDepth 20000

theorem zMsg_ok : dMsg.ok zMsg := by
  simp [dMsg, dResult, dCert, dProof, dSign, dM, dP, dI, dS, dY, dL, zMsg, zResult, zCert, zProof, zSign]
theorem okIte {P : MsgD → Prop} {c : Prop} [Decidable c] {a b : MsgD} (h1 : P a) (h2 : P b) : P (if c then a else b) := by
  by_cases h : c
  · rw [if_pos h]; exact h1
  · rw [if_neg h]; exact h2
set_option maxHeartbeats 2000000 in
theorem bare_ok {m : MsgD} (hm : dMsg.ok m) : dMsg.ok (bareF m) := by
  obtain ⟨h1, h2, h3, h4, h5, h6, h7, h8, h9, h10, h11, h12, h13, h14, h15, h16, h17⟩ := hm
  obtain ⟨z1, z2, z3, z4, z5, z6, z7, z8, z9, z10, z11, z12, z13, z14, z15, z16, z17⟩ := zMsg_ok
  have hs : dSign.ok (if signedK m.kind then m.sign else zSign) := by split; exact h17; exact z17
  unfold bareF
  simp only
  generalize (if signedK m.kind = true then m.sign else zSign) = s at hs ⊢
  repeat' refine okIte (P := dMsg.ok) ?_ ?_
  all_goals exact ⟨h1, by first | exact h2 | exact z2, by first | exact h3 | exact z3, by first | exact h4 | exact z4, by first | exact h5 | exact z5, by first | exact h6 | exact z6, by first | exact h7 | exact z7, by first | exact h8 | exact z8, by first | exact h9 | exact z9, by first | exact h10 | exact z10, by first | exact h11 | exact z11, by first | exact h12 | exact z12, by first | exact h13 | exact z13, by first | exact h14 | exact z14, by first | exact h15 | exact z15, by first | exact h16 | exact z16, hs⟩
theorem checkE_b (x : MsgD) : checkE x = if (msgE x == 0) && !eqB x (bareF x) then 100 else msgE x := by
  unfold checkE
  by_cases h1 : msgE x = 0 <;> by_cases h2 : x = bareF x
  · rw [if_neg (fun h => h.2 h2), eqB_true h2]; simp
  · rw [if_pos ⟨h1, h2⟩, eqB_false h2]; simp [h1]
  · rw [if_neg (fun h => h1 h.1)]; simp [h1]
  · rw [if_neg (fun h => h1 h.1)]; simp [h1]
theorem check_s [Wd] (m : MsgD) (hm : dMsg.ok m) : FnP Tryz.prog 205 [.agg (cMsg m)] (.int .i64 (checkE m)) := by
  refine mkS 18 [] Tryz.func205 rfl (by kernel_rfl) ?_
  repeat'
    (conv => arg 2; whnf)
    first
    | refine okBrT ?_
    | refine okBrF ?_
    | refine okBr (fun h => ?_) (fun h => ?_)
    | refine okAsk (by kernel_rfl) ?_
    | refine okAskr 1 (askMsg_s m hm) ⟨⟨rfl, rfl⟩, trivial⟩ (Cos.refl _) rfl ?_
    | refine okFn (bare_s m) rfl (Cos.refl _) ?_
    | refine okFn (mSame_s m (bareF m) hm (bare_ok hm)) rfl (Cos.refl _) ?_
    | refine endInt (.inr rfl) rfl ?_
  all_goals rw [checkE_b]
  all_goals simp_all [z_orE]
end Go.Proofs.YtafomdobfmmleaaGreatDoor

/- message.Bytes over data (printed by gen_an.py). -/
namespace Go.Proofs.YtafomdobfmmleaaGreatDoor
open Go.RowKit
set_option linter.unusedVariables false
set_option maxRecDepth 20000

theorem okWr1 [Wd] {Q : Exit → S → Prop} {f : FuncId} {ar ar' : List D} {add bs : List UInt8} {hb : List AO} {c : D → List AO → T} (hF : FnW f ar add) (hl : (bs ++ add).length + 200 ≤ big) (hv : vwP hb [1] [1] (oW bs)) (hc : Cos ar' (D.ren.rl [1] (.ptr 0 0 :: ar))) (hM : ([1].all fun o => (foot hb ar').elem o) = true) (k : (c (.tup []) (upH hb [1] (oW bs) (oW (bs ++ add)))).ok Tryz.prog Q) : (T.call f ar' hb c).ok Tryz.prog Q :=
  okCall [1] (hF bs hl) (.mk' rfl hv) hc hM k
theorem bytes7_s [Wd] (m : MsgD) (hm : dMsg.ok m) {c : ChangeD} (h7 : m.changes[0]? = some c) (hk : (m.kind == 7) = true) (h0 : checkE m = 0) (hk0 : kindE m = 0) (hl : (unsB m).length + 300 ≤ big) (hb : ¬ 262144 < (unsB m ++ signP c.sign).length) : FnP Tryz.prog 157 [.agg (cMsg m)] (.tup [.list 1 ((unsB m ++ signP c.sign).map cByte), .int .i64 0]) := by
  refine mkS 39 [] Tryz.func157 rfl (by kernel_rfl) ?_
  repeat'
    (conv => arg 2; whnf)
    first
    | refine okAsk (by kernel_rfl) ?_
    | refine okBrT ?_
    | refine okBrF ?_
    | refine okBr (fun h => ?_) (fun h => ?_)
    | refine okFn (check_s m hm) rfl (Cos.refl _) ?_
    | refine okCall [1] (wUns_s m hm hk0 (by omega)) (.mk' rfl ⟨⟨rfl, rfl⟩, trivial⟩) (Cos.refl _) rfl ?_
    | refine okNth (cChange c) (by decide) (by simp [h7]) ?_
    | refine okFn (signed_s _) rfl (Cos.refl _) ?_
    | refine okWr1 (wSign_s c.sign) (by have := signP_l c.sign; rw [List.length_append]; omega) ⟨⟨rfl, rfl⟩, trivial⟩ (Cos.refl _) rfl ?_
    | refine okCall [1] (wShort_s (unsB m ++ signP c.sign) hb) (.mk' rfl ⟨⟨rfl, rfl⟩, trivial⟩) (Cos.refl _) rfl ?_
    | refine endFn0 (.inr rfl) rfl (.refl _) rfl
    | (exfalso; simp_all; done)
theorem bytes7L_s [Wd] (m : MsgD) (hm : dMsg.ok m) {c : ChangeD} (h7 : m.changes[0]? = some c) (hk : (m.kind == 7) = true) (h0 : checkE m = 0) (hk0 : kindE m = 0) (hl : (unsB m).length + 300 ≤ big) (hb : 262144 < (unsB m ++ signP c.sign).length) : FnP Tryz.prog 157 [.agg (cMsg m)] (.tup [.nils, .int .i64 3]) := by
  refine mkS 39 [] Tryz.func157 rfl (by kernel_rfl) ?_
  repeat'
    (conv => arg 2; whnf)
    first
    | refine okAsk (by kernel_rfl) ?_
    | refine okBrT ?_
    | refine okBrF ?_
    | refine okBr (fun h => ?_) (fun h => ?_)
    | refine okFn (check_s m hm) rfl (Cos.refl _) ?_
    | refine okCall [1] (wUns_s m hm hk0 (by omega)) (.mk' rfl ⟨⟨rfl, rfl⟩, trivial⟩) (Cos.refl _) rfl ?_
    | refine okNth (cChange c) (by decide) (by simp [h7]) ?_
    | refine okFn (signed_s _) rfl (Cos.refl _) ?_
    | refine okWr1 (wSign_s c.sign) (by have := signP_l c.sign; rw [List.length_append]; omega) ⟨⟨rfl, rfl⟩, trivial⟩ (Cos.refl _) rfl ?_
    | refine okCall [1] (wShortL_s (unsB m ++ signP c.sign) hb) (.mk' rfl ⟨⟨rfl, rfl⟩, trivial⟩) (Cos.refl _) rfl ?_
    | refine endFn0 (.inr rfl) rfl (.refl _) rfl
    | (exfalso; simp_all; done)
theorem bytesS_s [Wd] (m : MsgD) (hm : dMsg.ok m) (hk : (m.kind == 7) = false) (hs : signedK m.kind = true) (h0 : checkE m = 0) (hk0 : kindE m = 0) (hl : (unsB m).length + 300 ≤ big) (hb : ¬ 262144 < (unsB m ++ signP m.sign).length) : FnP Tryz.prog 157 [.agg (cMsg m)] (.tup [.list 1 ((unsB m ++ signP m.sign).map cByte), .int .i64 0]) := by
  refine mkS 39 [] Tryz.func157 rfl (by kernel_rfl) ?_
  repeat'
    (conv => arg 2; whnf)
    first
    | refine okAsk (by kernel_rfl) ?_
    | refine okBrT ?_
    | refine okBrF ?_
    | refine okBr (fun h => ?_) (fun h => ?_)
    | refine okFn (check_s m hm) rfl (Cos.refl _) ?_
    | refine okCall [1] (wUns_s m hm hk0 (by omega)) (.mk' rfl ⟨⟨rfl, rfl⟩, trivial⟩) (Cos.refl _) rfl ?_
    | refine okFn (signed_s _) rfl (Cos.refl _) ?_
    | refine okWr1 (wSign_s m.sign) (by have := signP_l m.sign; rw [List.length_append]; omega) ⟨⟨rfl, rfl⟩, trivial⟩ (Cos.refl _) rfl ?_
    | refine okCall [1] (wShort_s (unsB m ++ signP m.sign) hb) (.mk' rfl ⟨⟨rfl, rfl⟩, trivial⟩) (Cos.refl _) rfl ?_
    | refine endFn0 (.inr rfl) rfl (.refl _) rfl
    | (exfalso; simp_all; done)
theorem bytesSL_s [Wd] (m : MsgD) (hm : dMsg.ok m) (hk : (m.kind == 7) = false) (hs : signedK m.kind = true) (h0 : checkE m = 0) (hk0 : kindE m = 0) (hl : (unsB m).length + 300 ≤ big) (hb : 262144 < (unsB m ++ signP m.sign).length) : FnP Tryz.prog 157 [.agg (cMsg m)] (.tup [.nils, .int .i64 3]) := by
  refine mkS 39 [] Tryz.func157 rfl (by kernel_rfl) ?_
  repeat'
    (conv => arg 2; whnf)
    first
    | refine okAsk (by kernel_rfl) ?_
    | refine okBrT ?_
    | refine okBrF ?_
    | refine okBr (fun h => ?_) (fun h => ?_)
    | refine okFn (check_s m hm) rfl (Cos.refl _) ?_
    | refine okCall [1] (wUns_s m hm hk0 (by omega)) (.mk' rfl ⟨⟨rfl, rfl⟩, trivial⟩) (Cos.refl _) rfl ?_
    | refine okFn (signed_s _) rfl (Cos.refl _) ?_
    | refine okWr1 (wSign_s m.sign) (by have := signP_l m.sign; rw [List.length_append]; omega) ⟨⟨rfl, rfl⟩, trivial⟩ (Cos.refl _) rfl ?_
    | refine okCall [1] (wShortL_s (unsB m ++ signP m.sign) hb) (.mk' rfl ⟨⟨rfl, rfl⟩, trivial⟩) (Cos.refl _) rfl ?_
    | refine endFn0 (.inr rfl) rfl (.refl _) rfl
    | (exfalso; simp_all; done)
theorem bytesF_s [Wd] (m : MsgD) (hm : dMsg.ok m) (hk : (m.kind == 7) = false) (hs : signedK m.kind = false) (h0 : checkE m = 0) (hk0 : kindE m = 0) (hl : (unsB m).length + 300 ≤ big) (hb : ¬ 262144 < (unsB m).length) : FnP Tryz.prog 157 [.agg (cMsg m)] (.tup [.list 1 ((unsB m).map cByte), .int .i64 0]) := by
  refine mkS 39 [] Tryz.func157 rfl (by kernel_rfl) ?_
  repeat'
    (conv => arg 2; whnf)
    first
    | refine okAsk (by kernel_rfl) ?_
    | refine okBrT ?_
    | refine okBrF ?_
    | refine okBr (fun h => ?_) (fun h => ?_)
    | refine okFn (check_s m hm) rfl (Cos.refl _) ?_
    | refine okCall [1] (wUns_s m hm hk0 (by omega)) (.mk' rfl ⟨⟨rfl, rfl⟩, trivial⟩) (Cos.refl _) rfl ?_
    | refine okFn (signed_s _) rfl (Cos.refl _) ?_
    | refine okCall [1] (wShort_s (unsB m) hb) (.mk' rfl ⟨⟨rfl, rfl⟩, trivial⟩) (Cos.refl _) rfl ?_
    | refine endFn0 (.inr rfl) rfl (.refl _) rfl
    | (exfalso; simp_all; done)
theorem bytesFL_s [Wd] (m : MsgD) (hm : dMsg.ok m) (hk : (m.kind == 7) = false) (hs : signedK m.kind = false) (h0 : checkE m = 0) (hk0 : kindE m = 0) (hl : (unsB m).length + 300 ≤ big) (hb : 262144 < (unsB m).length) : FnP Tryz.prog 157 [.agg (cMsg m)] (.tup [.nils, .int .i64 3]) := by
  refine mkS 39 [] Tryz.func157 rfl (by kernel_rfl) ?_
  repeat'
    (conv => arg 2; whnf)
    first
    | refine okAsk (by kernel_rfl) ?_
    | refine okBrT ?_
    | refine okBrF ?_
    | refine okBr (fun h => ?_) (fun h => ?_)
    | refine okFn (check_s m hm) rfl (Cos.refl _) ?_
    | refine okCall [1] (wUns_s m hm hk0 (by omega)) (.mk' rfl ⟨⟨rfl, rfl⟩, trivial⟩) (Cos.refl _) rfl ?_
    | refine okFn (signed_s _) rfl (Cos.refl _) ?_
    | refine okCall [1] (wShortL_s (unsB m) hb) (.mk' rfl ⟨⟨rfl, rfl⟩, trivial⟩) (Cos.refl _) rfl ?_
    | refine endFn0 (.inr rfl) rfl (.refl _) rfl
    | (exfalso; simp_all; done)
theorem bytesNo_s [Wd] (m : MsgD) (hm : dMsg.ok m) (h0 : ¬ checkE m = 0) : FnP Tryz.prog 157 [.agg (cMsg m)] (.tup [.nils, .int .i64 (checkE m)]) := by
  refine mkS 39 [] Tryz.func157 rfl (by kernel_rfl) ?_
  repeat'
    (conv => arg 2; whnf)
    first
    | refine okAsk (by kernel_rfl) ?_
    | refine okBrT ?_
    | refine okBrF ?_
    | refine okBr (fun h => ?_) (fun h => ?_)
    | refine okFn (check_s m hm) rfl (Cos.refl _) ?_
    | refine endFn0 (.inr rfl) rfl (.refl _) rfl
    | (exfalso; simp_all; done)
end Go.Proofs.YtafomdobfmmleaaGreatDoor

/- message.some; message.Unsigned over data (printed by gen_ao.py). -/
namespace Go.Proofs.YtafomdobfmmleaaGreatDoor
open Go.RowKit
set_option linter.unusedVariables false
set_option maxRecDepth 20000

theorem some_s [Wd] : FnP Tryz.prog 155 [] (.agg (cSign someS)) := by
  refine mkS 2 [] Tryz.func155 rfl (by kernel_rfl) ?_
  repeat'
    (conv => arg 2; whnf)
    first
    | refine okAsk (by kernel_rfl) ?_
    | refine endFn0 (.inr rfl) rfl (.refl _) rfl
theorem unsignedS_s [Wd] (m : MsgD) (hm : dMsg.ok { m with sign := someS }) (hk : (m.kind == 7) = false) (hs : signedK m.kind = true) (h0 : checkE { m with sign := someS } = 0) (hk0 : kindE { m with sign := someS } = 0) (hl : (unsB { m with sign := someS }).length + 300 ≤ big) (hb : ¬ 262144 < (unsB { m with sign := someS } ++ signP someS).length) : FnP Tryz.prog 109 [.agg (cMsg m)] (.tup [.list 1 ((unsB { m with sign := someS }).map cByte), .int .i64 0]) := by
  refine mkS 51 [] Tryz.func109 rfl (by kernel_rfl) ?_
  repeat'
    (conv => arg 2; whnf)
    first
    | refine okAsk (by kernel_rfl) ?_
    | refine okBrT ?_
    | refine okBrF ?_
    | refine okBr (fun h => ?_) (fun h => ?_)
    | refine okFn some_s rfl (Cos.refl _) ?_
    | refine okFn (signed_s _) rfl (Cos.refl _) ?_
    | refine okFn (bytesS_s { m with sign := someS } hm hk hs h0 hk0 hl hb) rfl (Cos.refl _) ?_
    | refine okCall [1] (wUns_s { m with sign := someS } hm hk0 (by omega)) (.mk' rfl ⟨⟨rfl, rfl⟩, trivial⟩) (Cos.refl _) rfl ?_
    | refine endFn0 (.inr rfl) rfl (.refl _) rfl
    | (exfalso; simp_all; done)
theorem unsignedSL_s [Wd] (m : MsgD) (hm : dMsg.ok { m with sign := someS }) (hk : (m.kind == 7) = false) (hs : signedK m.kind = true) (h0 : checkE { m with sign := someS } = 0) (hk0 : kindE { m with sign := someS } = 0) (hl : (unsB { m with sign := someS }).length + 300 ≤ big) (hb : 262144 < (unsB { m with sign := someS } ++ signP someS).length) : FnP Tryz.prog 109 [.agg (cMsg m)] (.tup [.nils, .int .i64 3]) := by
  refine mkS 51 [] Tryz.func109 rfl (by kernel_rfl) ?_
  repeat'
    (conv => arg 2; whnf)
    first
    | refine okAsk (by kernel_rfl) ?_
    | refine okBrT ?_
    | refine okBrF ?_
    | refine okBr (fun h => ?_) (fun h => ?_)
    | refine okFn some_s rfl (Cos.refl _) ?_
    | refine okFn (signed_s _) rfl (Cos.refl _) ?_
    | refine okFn (bytesSL_s { m with sign := someS } hm hk hs h0 hk0 hl hb) rfl (Cos.refl _) ?_
    | refine endFn0 (.inr rfl) rfl (.refl _) rfl
    | (exfalso; simp_all; done)
theorem unsignedSNo_s [Wd] (m : MsgD) (hm : dMsg.ok { m with sign := someS }) (hk : (m.kind == 7) = false) (hs : signedK m.kind = true) (h0 : ¬ checkE { m with sign := someS } = 0) : FnP Tryz.prog 109 [.agg (cMsg m)] (.tup [.nils, .int .i64 (checkE { m with sign := someS })]) := by
  refine mkS 51 [] Tryz.func109 rfl (by kernel_rfl) ?_
  repeat'
    (conv => arg 2; whnf)
    first
    | refine okAsk (by kernel_rfl) ?_
    | refine okBrT ?_
    | refine okBrF ?_
    | refine okBr (fun h => ?_) (fun h => ?_)
    | refine okFn some_s rfl (Cos.refl _) ?_
    | refine okFn (signed_s _) rfl (Cos.refl _) ?_
    | refine okFn (bytesNo_s { m with sign := someS } hm h0) rfl (Cos.refl _) ?_
    | refine endFn0 (.inr rfl) rfl (.refl _) rfl
    | (exfalso; simp_all; done)
theorem unsignedF_s [Wd] (m : MsgD) (hm : dMsg.ok m) (hk : (m.kind == 7) = false) (hs : signedK m.kind = false) (h0 : checkE m = 0) (hk0 : kindE m = 0) (hl : (unsB m).length + 300 ≤ big) (hb : ¬ 262144 < (unsB m).length) : FnP Tryz.prog 109 [.agg (cMsg m)] (.tup [.list 1 ((unsB m).map cByte), .int .i64 0]) := by
  refine mkS 51 [] Tryz.func109 rfl (by kernel_rfl) ?_
  repeat'
    (conv => arg 2; whnf)
    first
    | refine okAsk (by kernel_rfl) ?_
    | refine okBrT ?_
    | refine okBrF ?_
    | refine okBr (fun h => ?_) (fun h => ?_)
    | refine okFn some_s rfl (Cos.refl _) ?_
    | refine okFn (signed_s _) rfl (Cos.refl _) ?_
    | refine okFn (bytesF_s m hm hk hs h0 hk0 hl hb) rfl (Cos.refl _) ?_
    | refine okCall [1] (wUns_s m hm hk0 (by omega)) (.mk' rfl ⟨⟨rfl, rfl⟩, trivial⟩) (Cos.refl _) rfl ?_
    | refine endFn0 (.inr rfl) rfl (.refl _) rfl
    | (exfalso; simp_all; done)
theorem unsignedFL_s [Wd] (m : MsgD) (hm : dMsg.ok m) (hk : (m.kind == 7) = false) (hs : signedK m.kind = false) (h0 : checkE m = 0) (hk0 : kindE m = 0) (hl : (unsB m).length + 300 ≤ big) (hb : 262144 < (unsB m).length) : FnP Tryz.prog 109 [.agg (cMsg m)] (.tup [.nils, .int .i64 3]) := by
  refine mkS 51 [] Tryz.func109 rfl (by kernel_rfl) ?_
  repeat'
    (conv => arg 2; whnf)
    first
    | refine okAsk (by kernel_rfl) ?_
    | refine okBrT ?_
    | refine okBrF ?_
    | refine okBr (fun h => ?_) (fun h => ?_)
    | refine okFn some_s rfl (Cos.refl _) ?_
    | refine okFn (signed_s _) rfl (Cos.refl _) ?_
    | refine okFn (bytesFL_s m hm hk hs h0 hk0 hl hb) rfl (Cos.refl _) ?_
    | refine endFn0 (.inr rfl) rfl (.refl _) rfl
    | (exfalso; simp_all; done)
theorem unsignedFNo_s [Wd] (m : MsgD) (hm : dMsg.ok m) (hk : (m.kind == 7) = false) (hs : signedK m.kind = false) (h0 : ¬ checkE m = 0) : FnP Tryz.prog 109 [.agg (cMsg m)] (.tup [.nils, .int .i64 (checkE m)]) := by
  refine mkS 51 [] Tryz.func109 rfl (by kernel_rfl) ?_
  repeat'
    (conv => arg 2; whnf)
    first
    | refine okAsk (by kernel_rfl) ?_
    | refine okBrT ?_
    | refine okBrF ?_
    | refine okBr (fun h => ?_) (fun h => ?_)
    | refine okFn some_s rfl (Cos.refl _) ?_
    | refine okFn (signed_s _) rfl (Cos.refl _) ?_
    | refine okFn (bytesNo_s m hm h0) rfl (Cos.refl _) ?_
    | refine endFn0 (.inr rfl) rfl (.refl _) rfl
    | (exfalso; simp_all; done)
theorem unsigned7_s [Wd] (m : MsgD) (c : ChangeD) (hm : dMsg.ok { m with changes := [{ c with sign := someS }] }) (hk : (m.kind == 7) = true) (hc : m.changes = [c]) (h0 : checkE { m with changes := [{ c with sign := someS }] } = 0) (hk0 : kindE { m with changes := [{ c with sign := someS }] } = 0) (hl : (unsB { m with changes := [{ c with sign := someS }] }).length + 300 ≤ big) (hb : ¬ 262144 < (unsB { m with changes := [{ c with sign := someS }] } ++ signP someS).length) : FnP Tryz.prog 109 [.agg (cMsg m)] (.tup [.list 1 ((unsB { m with changes := [{ c with sign := someS }] }).map cByte), .int .i64 0]) := by
  refine mkS 51 [] Tryz.func109 rfl (by kernel_rfl) ?_
  repeat'
    (conv => arg 2; whnf)
    first
    | refine okAsk (by kernel_rfl) ?_
    | refine okBrT ?_
    | refine okBrF ?_
    | refine okBr (fun h => ?_) (fun h => ?_)
    | refine okNth (cChange c) (by decide) (by simp [hc]) ?_
    | refine okFn some_s rfl (Cos.refl _) ?_
    | refine okFn (signed_s _) rfl (Cos.refl _) ?_
    | refine okFn (bytes7_s { m with changes := [{ c with sign := someS }] } hm (c := { c with sign := someS }) rfl hk h0 hk0 hl hb) rfl (Cos.refl _) ?_
    | refine okCall [1] (wUns_s { m with changes := [{ c with sign := someS }] } hm hk0 (by omega)) (.mk' rfl ⟨⟨rfl, rfl⟩, trivial⟩) (Cos.refl _) rfl ?_
    | refine okCall [2] (wUns_s { m with changes := [{ c with sign := someS }] } hm hk0 (by omega)) (.mk' rfl ⟨⟨rfl, rfl⟩, trivial⟩) (Cos.refl _) rfl ?_
    | refine endFn0 (.inr rfl) rfl (.refl _) rfl
    | (exfalso; simp_all; done)
theorem unsigned7L_s [Wd] (m : MsgD) (c : ChangeD) (hm : dMsg.ok { m with changes := [{ c with sign := someS }] }) (hk : (m.kind == 7) = true) (hc : m.changes = [c]) (h0 : checkE { m with changes := [{ c with sign := someS }] } = 0) (hk0 : kindE { m with changes := [{ c with sign := someS }] } = 0) (hl : (unsB { m with changes := [{ c with sign := someS }] }).length + 300 ≤ big) (hb : 262144 < (unsB { m with changes := [{ c with sign := someS }] } ++ signP someS).length) : FnP Tryz.prog 109 [.agg (cMsg m)] (.tup [.nils, .int .i64 3]) := by
  refine mkS 51 [] Tryz.func109 rfl (by kernel_rfl) ?_
  repeat'
    (conv => arg 2; whnf)
    first
    | refine okAsk (by kernel_rfl) ?_
    | refine okBrT ?_
    | refine okBrF ?_
    | refine okBr (fun h => ?_) (fun h => ?_)
    | refine okNth (cChange c) (by decide) (by simp [hc]) ?_
    | refine okFn some_s rfl (Cos.refl _) ?_
    | refine okFn (signed_s _) rfl (Cos.refl _) ?_
    | refine okFn (bytes7L_s { m with changes := [{ c with sign := someS }] } hm (c := { c with sign := someS }) rfl hk h0 hk0 hl hb) rfl (Cos.refl _) ?_
    | refine endFn0 (.inr rfl) rfl (.refl _) rfl
    | (exfalso; simp_all; done)
theorem unsigned7No_s [Wd] (m : MsgD) (c : ChangeD) (hm : dMsg.ok { m with changes := [{ c with sign := someS }] }) (hk : (m.kind == 7) = true) (hc : m.changes = [c]) (h0 : ¬ checkE { m with changes := [{ c with sign := someS }] } = 0) : FnP Tryz.prog 109 [.agg (cMsg m)] (.tup [.nils, .int .i64 (checkE { m with changes := [{ c with sign := someS }] })]) := by
  refine mkS 51 [] Tryz.func109 rfl (by kernel_rfl) ?_
  repeat'
    (conv => arg 2; whnf)
    first
    | refine okAsk (by kernel_rfl) ?_
    | refine okBrT ?_
    | refine okBrF ?_
    | refine okBr (fun h => ?_) (fun h => ?_)
    | refine okNth (cChange c) (by decide) (by simp [hc]) ?_
    | refine okFn some_s rfl (Cos.refl _) ?_
    | refine okFn (signed_s _) rfl (Cos.refl _) ?_
    | refine okFn (bytesNo_s { m with changes := [{ c with sign := someS }] } hm h0) rfl (Cos.refl _) ?_
    | refine endFn0 (.inr rfl) rfl (.refl _) rfl
    | (exfalso; simp_all; done)
end Go.Proofs.YtafomdobfmmleaaGreatDoor

/- Small words: a box stored whole; a message's cells; what may not be wrong. -/
namespace Go.Proofs.YtafomdobfmmleaaGreatDoor
open Go.RowKit Go.Deep
set_option linter.unusedVariables false

theorem setRow_B {a w : World} {g : Nat} {t : TypeId} {cs : Array Value} (h : B a w) (hg : a.heap.size ≤ g) (cs' : Array Value) : B a (w.setRow g cs') :=
  ⟨h.os, h.tape, h.output, by rw [setRow_size]; exact h.size, fun b hb => by rw [setRow_other _ _ _ _ (by omega)]; exact h.block b hb⟩
theorem aBlk.setRow {W w : World} {L : List Asn} {g : Nat} {t : TypeId} {cs : Array Value} (h : St W w (aBlk g t cs :: L)) (cs' : Array Value) : St W (w.setRow g cs') (aBlk g t cs' :: L) := by
  obtain ⟨own, h1, h2, h3⟩ := h.focus
  refine h3 _ (aBlk g t cs') ?_ ⟨.inl h1.1, setRow_heap _ _ _ _ _ _ h1.2⟩
  exact ⟨rfl, rfl, rfl, by rw [setRow_size]; exact Nat.le_refl _, fun b hb hn => setRow_other _ _ _ _ (fun e => hn (by rw [e]; exact h1.1))⟩
theorem rangeE0 {n a b : Int} (h : rangeE n a b = 0) : a ≤ n ∧ n ≤ b := by
  unfold rangeE at h
  split at h
  · cases h
  · omega
theorem checkE_msg {x : MsgD} (h : checkE x = 0) : msgE x = 0 := by
  unfold checkE at h
  split at h
  · cases h
  · exact h
theorem msgE_kind {x : MsgD} (h : msgE x = 0) : kindE x = 0 := by
  exact (orE_zero.1 h).1
theorem tMsg.len {inn : Nat → Prop} {w : World} {cs : List Value} {x : MsgD} (hx : tMsg.rd inn w cs x) : cs.toArray.size = 30 := by
  obtain ⟨av1, av2, av3, av4, av5, av6, av7, av8, av9, rfl, af0⟩ := tMsg.parts hx
  rfl
theorem mInfo : (Tryz.prog.info? 59).map (·.size) = some 30 := by kernel_rfl
theorem St.under {W W1 w' : World} {L : List Asn} (hb : B W W1) (h : St W1 w' L) : St W w' L :=
  ⟨hb.trans h.1, h.2.mono (fun b _ hb' => Nat.le_trans hb.size hb')⟩
/-- what is wrong with a message's bytes -/
noncomputable def bytesE (x : MsgD) : Int := if checkE x = 0 then (if 262144 < (fullB x).length then 3 else 0) else checkE x
theorem bytesE0 {x : MsgD} : bytesE x = 0 ↔ checkE x = 0 ∧ (fullB x).length ≤ 262144 := by
  unfold bytesE
  split
  · rename_i h
    split
    · rename_i h2; constructor
      · intro h3; cases h3
      · intro h3; omega
    · rename_i h2; exact ⟨fun _ => ⟨h, by omega⟩, fun _ => rfl⟩
  · rename_i h; exact ⟨fun h2 => absurd h2 h, fun h2 => absurd h2.1 h⟩
theorem unsOk_E {x : MsgD} : unsOk x ↔ bytesE (withS x) = 0 := bytesE0.symm
/-- what a message's cells say -/
theorem tMsg.cells {inn : Nat → Prop} {w : World} {cs : List Value} {x : MsgD} (hx : tMsg.rd inn w cs x) : cs.toArray[0]? = some (.int .i64 x.kind) ∧ (∃ a c, cs.toArray[13]? = some (.slice a x.changes.length c)) ∧ (∃ v, cs.toArray[28]? = some v) ∧ (∃ v, cs.toArray[29]? = some v) ∧ (∀ h : 0 < cs.toArray.size, cs.toArray[0]'h = .int .i64 x.kind) := by
  obtain ⟨av1, av2, av3, av4, av5, av6, av7, av8, av9, rfl, af0, af1, af2, af3, af4, af5, af6, af7, af8, af9, af10, af11, af12, af13, af14, af15, af16, af17, af18, af19, af20, af21, af22, af23, af24, af25, af26, af27, af28, af29⟩ := tMsg.parts hx
  obtain ⟨a, c, he, hl⟩ := tL.slice af13
  injection he with he _
  exact ⟨rfl, ⟨a, c, by rw [he]; rfl⟩, ⟨_, rfl⟩, ⟨_, rfl⟩, fun _ => rfl⟩
/-- its changes -/
theorem tMsg.chg {inn : Nat → Prop} {w : World} {cs : List Value} {x : MsgD} (hx : tMsg.rd inn w cs x) : ∃ a c, cs.toArray[13]? = some (.slice a x.changes.length c) ∧ (tL tChange).rd inn w [.slice a x.changes.length c] x.changes := by
  obtain ⟨av1, av2, av3, av4, av5, av6, av7, av8, av9, rfl, af0, af1, af2, af3, af4, af5, af6, af7, af8, af9, af10, af11, af12, af13, af14, af15, af16, af17, af18, af19, af20, af21, af22, af23, af24, af25, af26, af27, af28, af29⟩ := tMsg.parts hx
  obtain ⟨a, c, he, hl⟩ := tL.slice af13
  injection he with he _
  subst he
  exact ⟨a, c, rfl, af13⟩
end Go.Proofs.YtafomdobfmmleaaGreatDoor

/- How long names, and the bytes of messages that may be, can get: plain. -/
namespace Go.Proofs.YtafomdobfmmleaaGreatDoor
open Go.RowKit Go.Deep
set_option linter.unusedVariables false

theorem width_le (s : ByteArray) (pos : Nat) : (Utf8.decode s pos).2 ≤ 4 := by
  simp only [Utf8.decode]
  repeat' split
  all_goals simp_all
  all_goals omega
theorem runesGo_len (s : ByteArray) : ∀ k pos n m, s.size ≤ pos + k → runesGo s k pos n = some m → n ≤ m ∧ s.size ≤ pos + 4 * (m - n)
  | 0, pos, n, m, hk, h => by
    simp only [runesGo] at h
    injection h with h
    omega
  | k + 1, pos, n, m, hk, h => by
    simp only [runesGo] at h
    split at h
    · rename_i hp
      split at h
      · cases h
      · have h1 := width_pos s pos hp
        have h4 := width_le s pos
        have := runesGo_len s k _ _ m (by omega) h
        omega
    · injection h with h
      omega
theorem nameF_len {s : List UInt8} (h : nameF s = true) : s.length ≤ 64 := by
  unfold nameF runesF at h
  simp only [decide_eq_true_eq] at h
  split at h
  · omega
  · rename_i n hn
    split at h
    · omega
    · have := runesGo_len (bstr s) _ 0 0 n (by rw [bstr_size]; omega) hn
      rw [bstr_size] at this
      omega
theorem nameE0 {s : List UInt8} (h : nameE s = 0) : s.length ≤ 64 := by
  unfold nameE at h
  split at h
  · rename_i hn; exact nameF_len hn
  · cases h
theorem opB_short {o : OpD} (h : opE o = 0) : (opB o).length ≤ 1000 := by
  have h0 := opE0 h
  unfold opE at h
  repeat' split at h
  all_goals try cases h
  rename_i g1 g2 g3 g4 g5
  have ek := encLe10 o.kind.toNat (by omega)
  have eo := encLe10 o.offset.toNat (by omega)
  have bl : ∀ b : List UInt8, b.length ≤ 64 → (byF b).length ≤ 74 := fun b hb => by
    unfold byF
    have := encLe10 b.length (by omega)
    rw [List.length_append]; omega
  unfold opB
  rw [List.length_append, List.length_append]
  have p1 : (if o.kind = 0 then [] else byF o.topic).length ≤ 74 := by
    split
    · simp
    · rename_i hk
      exact bl _ (nameF_len (by simpa [hk] using g2))
  have p2 : (if o.kind = 2 then enc o.records.length ++ o.records.flatMap byF else if o.kind = 3 then byF o.group ++ enc o.offset.toNat else if o.kind = 4 then enc o.offset.toNat else []).length ≤ 800 := by
    split
    · rename_i k2
      have hr : o.records.length ≤ 4 ∧ longF o = false := by
        simp only [not_and, not_or] at g4
        have := g4 k2
        exact ⟨by omega, by simpa using this.2.2⟩
      have e5 := encLe10 o.records.length (by omega)
      have e6 := flat_len (f := byF) (K := 74) o.records (fun x hx => bl x (by
        have := hr.2
        unfold longF at this
        rw [List.any_eq_false] at this
        have := this x hx
        simp at this
        omega))
      rw [List.length_append]
      have : o.records.length * 74 ≤ 4 * 74 := Nat.mul_le_mul_right _ hr.1
      omega
    · split
      · rename_i k3
        have := bl o.group (nameF_len (by simpa [k3] using g3))
        rw [List.length_append]; omega
      · split
        · omega
        · simp
  omega
theorem encI_l10 (n : Int) : (encI n).length ≤ 10 := by
  unfold encI
  exact encLe10 _ (by omega)
theorem numsB_len (l : List Int) : (numsB l).length ≤ 10 * l.length := by
  unfold numsB
  have := flat_len (f := encI) (K := 10) l (fun x _ => encI_l10 x)
  omega
theorem signB_len {s : SignD} (h : signE s = 0) : (signB s).length ≤ 20 := by
  have h' := signE0 h
  have e1 := encLe10 s.key.toNat (by omega)
  have e2 := encLe10 s.digest.toNat (by omega)
  unfold signB
  rw [List.length_append]; omega
theorem signP_l20 (s : SignD) : (signP s).length ≤ 20 := by
  unfold signP
  split
  · rename_i h; exact signB_len h
  · simp
theorem reqB_short {x : RequestD} (h : reqE x = 0) : (reqB x).length ≤ 1020 := by
  obtain ⟨c, t, o⟩ := reqE0 h
  have e1 := encLe10 x.client.toNat (by omega)
  have e2 := encLe10 x.time.toNat (by omega)
  have e3 := opB_short o
  unfold reqB
  simp only [List.length_append]; omega
theorem batchP_len (l : List SignedD) : (batchP l).length ≤ 4300 := by
  unfold batchP
  split
  · rename_i h
    have h' := batchE0 h
    unfold batchB
    have e := encLe10 l.length (by omega)
    have f := flat_len (f := signedB) (K := 1050) l (fun s hs => by
      obtain ⟨h1, h2⟩ := h'.2 s hs
      have a1 := reqB_short h1
      have a2 := signB_len h2
      have a3 := encLe10 (reqB s.request).length (by omega)
      unfold signedB byF
      simp only [List.length_append]; omega)
    rw [List.length_append]
    have : l.length * 1050 ≤ 4 * 1050 := Nat.mul_le_mul_right _ h'.1
    omega
  · simp
theorem manyE0 {n : Nat} {m : Int} (h : manyE n m = 0) : (n : Int) ≤ m := (rangeE0 h).2
theorem signsB_len {l : List SignD} (h : signsE l = 0) : (signsB l).length ≤ 270 := by
  have h1 := manyE0 (orE_zero.1 h).1
  unfold signsB
  have e := encI_l10 (l.length : Int)
  have f := flat_len (f := signP) (K := 20) l (fun s _ => signP_l20 s)
  rw [List.length_append]
  have : l.length * 20 ≤ 13 * 20 := Nat.mul_le_mul_right _ (by omega)
  omega
theorem certB_len {c : CertD} (h : certE c = 0) : (certB c).length ≤ 300 := by
  unfold certE at h
  have h1 := (orE_zero.1 (orE_zero.1 (orE_zero.1 h).2).2).2
  have e := numsB_len [c.seq, c.digest]
  have f := signsB_len h1
  simp at e
  unfold certB
  rw [List.length_append]; omega
theorem prepB_len {p : PreparedD} (h : prepE p = 0) : (prepB p).length ≤ 5000 := by
  unfold prepE at h
  simp only [orE_zero] at h
  have e := numsB_len [p.view, p.seq, p.digest]
  have f := signsB_len h.2.2.2.2.1
  have g := signP_l20 p.firstS
  have b := batchP_len p.batch
  simp at e
  unfold prepB
  simp only [List.length_append]; omega
theorem bodyC_len {c : ChangeD} (h : chgE c = 0) : (bodyC c).length ≤ 41000 := by
  unfold chgE at h
  simp only [orE_zero] at h
  obtain ⟨_, _, h3, h4, h5, _⟩ := h
  have n := manyE0 h4
  have e := numsB_len [c.view, c.src]
  have f := certB_len h3
  have g := encI_l10 (c.above.length : Int)
  have b := flat_len (f := prepB) (K := 5000) c.above (fun p hp => prepB_len (listE_zero.1 h5 p hp))
  have : c.above.length * 5000 ≤ 8 * 5000 := Nat.mul_le_mul_right _ (by omega)
  simp at e
  unfold bodyC
  simp only [List.length_append]; omega
theorem chgB_len {c : ChangeD} (h : chgE c = 0) : (chgB c).length ≤ 41100 := by
  have a := bodyC_len h
  have b := signP_l20 c.sign
  unfold chgB
  simp only [List.length_append]; omega
theorem entryB_len (x : EntryD) : (entryB x).length ≤ 4400 := by
  have e := numsB_len [x.view, x.seq]
  have a := batchP_len x.batch
  have b := signP_l20 x.sign
  simp at e
  unfold entryB
  simp only [List.length_append]; omega
theorem proofB_len {p : ProofD} (h : proofE p = 0) : (proofB p).length ≤ 5000 := by
  unfold proofE at h
  simp only [orE_zero] at h
  obtain ⟨h1, _, h3, h4, _, _, _, _, h9, _, h11⟩ := h
  have n1 := nameE0 h1
  have n3 := manyE0 h3
  have n4 := manyE0 h4
  have n9 := manyE0 h9
  have a1 := encLe10 p.topic.length (by omega)
  have a2 := encLe10 p.record.length (by omega)
  have e1 := numsB_len [p.offset]
  have e2 := numsB_len [p.index, p.count]
  have f1 := encI_l10 (p.headers.length : Int)
  have f2 := encI_l10 (p.path.length : Int)
  have c := certB_len h11
  have b1 := flat_len (f := headB) (K := 50) p.headers (fun x _ => by have := numsB_len [x.seq, x.prev, x.batch, x.root, x.state]; simp at this; unfold headB; omega)
  have b2 := flat_len (f := encI) (K := 10) p.path (fun x _ => encI_l10 x)
  have : p.headers.length * 50 ≤ 64 * 50 := Nat.mul_le_mul_right _ (by omega)
  have : p.path.length * 10 ≤ 8 * 10 := Nat.mul_le_mul_right _ (by omega)
  simp at e1 e2
  unfold proofB byF
  simp only [List.length_append]; omega
theorem unsB_len {m : MsgD} (h : kindE m = 0) : (unsB m).length ≤ 1000000 := by
  have hk := encI_l10 m.kind
  unfold unsB
  rw [List.length_append]
  suffices (tailB m).length ≤ 900000 by omega
  have ns : ∀ l : List Int, l.length ≤ 4 → (numsB l).length ≤ 40 := fun l hl => by have := numsB_len l; omega
  unfold kindE at h
  unfold tailB
  by_cases k1 : m.kind = 1
  · rw [if_pos k1]; have := batchP_len m.batch; omega
  rw [if_neg k1] at h ⊢
  by_cases k2 : m.kind = 2
  · rw [if_pos k2]; have := batchP_len m.batch; have := ns [m.src, m.view, m.seq, m.digest] (by simp); rw [List.length_append]; omega
  rw [if_neg k2] at h ⊢
  by_cases k3 : m.kind = 3 ∨ m.kind = 4
  · rw [if_pos k3]; have := ns [m.src, m.view, m.seq, m.digest] (by simp); omega
  rw [if_neg k3]
  rw [if_neg (fun e => k3 (.inl e)), if_neg (fun e => k3 (.inr e))] at h
  by_cases k5 : m.kind = 5
  · rw [if_pos k5] at h ⊢
    simp only [orE_zero] at h
    have r1 := rangeE0 h.2.2.2.2.1
    have r2 := rangeE0 h.2.2.2.2.2
    have a1 := encLe10 (max m.result.err 0).toNat (by omega)
    have a2 := encLe10 (max m.result.offset 0).toNat (by omega)
    have := ns [m.src, m.view, m.client, m.time] (by simp)
    unfold resultB
    simp only [List.length_append]; omega
  rw [if_neg k5] at h ⊢
  by_cases k6 : m.kind = 6
  · rw [if_pos k6]; have := ns [m.src, m.seq, m.digest] (by simp); omega
  rw [if_neg k6] at h ⊢
  by_cases k7 : m.kind = 7
  · rw [if_pos k7] at h ⊢
    split
    · rename_i c r hc
      have := listE_zero.1 (orE_zero.1 h).2 c (by rw [hc]; simp)
      unfold viewE at this
      have := bodyC_len (orE_zero.1 this).1
      omega
    · simp
  rw [if_neg k7] at h ⊢
  by_cases k8 : m.kind = 8
  · rw [if_pos k8] at h ⊢
    unfold newE at h
    simp only [orE_zero] at h
    obtain ⟨_, _, h3, h4, h5, _⟩ := h
    have n3 := manyE0 h3
    have n5 := manyE0 h5
    have f1 := encI_l10 (m.changes.length : Int)
    have f2 := encI_l10 (m.entries.length : Int)
    have b1 := flat_len (f := chgB) (K := 41100) m.changes (fun c hc => chgB_len (listE_zero.1 h4 c hc))
    have b2 := flat_len (f := entryB) (K := 4400) m.entries (fun c hc => entryB_len c)
    have : m.changes.length * 41100 ≤ 13 * 41100 := Nat.mul_le_mul_right _ (by omega)
    have : m.entries.length * 4400 ≤ 8 * 4400 := Nat.mul_le_mul_right _ (by omega)
    have := ns [m.src, m.view] (by simp)
    simp only [List.length_append]; omega
  rw [if_neg k8] at h ⊢
  by_cases k9 : m.kind = 9
  · rw [if_pos k9]; have := ns [m.src, m.seq] (by simp); omega
  rw [if_neg k9] at h ⊢
  by_cases k10 : m.kind = 10
  · rw [if_pos k10] at h ⊢
    simp only [orE_zero] at h
    have c := certB_len h.2.1
    have s := manyE0 h.2.2
    have a := encLe10 m.state.length (by omega)
    have := ns [m.src] (by simp)
    unfold byF
    simp only [List.length_append]; omega
  rw [if_neg k10] at h ⊢
  by_cases k11 : m.kind = 11
  · rw [if_pos k11] at h ⊢
    simp only [orE_zero] at h
    have s := nameE0 h.2.1
    have a := encLe10 m.topic.length (by omega)
    have := ns [m.client] (by simp)
    have := ns [m.offset] (by simp)
    unfold byF
    simp only [List.length_append]; omega
  rw [if_neg k11] at h ⊢
  by_cases k12 : m.kind = 12
  · rw [if_pos k12] at h ⊢
    have := proofB_len (orE_zero.1 h).2
    have := ns [m.src] (by simp)
    simp only [List.length_append]; omega
  rw [if_neg k12]
  simp
end Go.Proofs.YtafomdobfmmleaaGreatDoor

/- message.Unsigned over data, whole; and over readings. -/
namespace Go.Proofs.YtafomdobfmmleaaGreatDoor
open Go.RowKit
set_option linter.unusedVariables false
set_option maxRecDepth 20000

theorem someS_ok : dSign.ok someS := by
  simp [dSign, dM, dP, dI, someS]
theorem dMsg_ok (m : MsgD) : dMsg.ok m = (dI.ok m.kind ∧ dI.ok m.src ∧ dI.ok m.view ∧ dI.ok m.seq ∧ dI.ok m.digest ∧ dI.ok m.client ∧ dI.ok m.time ∧ dResult.ok m.result ∧ (dL dSigned).ok m.batch ∧ dCert.ok m.cert ∧ (dL dChange).ok m.changes ∧ (dL dEntry).ok m.entries ∧ dY.ok m.state ∧ dS.ok m.topic ∧ dI.ok m.offset ∧ dProof.ok m.proof ∧ dSign.ok m.sign) := rfl
theorem dChange_ok (c : ChangeD) : dChange.ok c = (dI.ok c.view ∧ dI.ok c.src ∧ dCert.ok c.cert ∧ (dL dPrepared).ok c.above ∧ dSign.ok c.sign) := rfl
theorem sign_ok {m : MsgD} (hm : dMsg.ok m) : dMsg.ok { m with sign := someS } := by
  rw [dMsg_ok] at hm ⊢
  obtain ⟨h1, h2, h3, h4, h5, h6, h7, h8, h9, h10, h11, h12, h13, h14, h15, h16, h17⟩ := hm
  exact ⟨h1, h2, h3, h4, h5, h6, h7, h8, h9, h10, h11, h12, h13, h14, h15, h16, someS_ok⟩
theorem chg_ok {m : MsgD} (hm : dMsg.ok m) {c : ChangeD} (hc : m.changes = [c]) : dMsg.ok { m with changes := [{ c with sign := someS }] } := by
  rw [dMsg_ok] at hm ⊢
  obtain ⟨h1, h2, h3, h4, h5, h6, h7, h8, h9, h10, h11, h12, h13, h14, h15, h16, h17⟩ := hm
  have h := h11.2 c (by rw [hc]; simp)
  rw [dChange_ok] at h
  obtain ⟨c1, c2, c3, c4, c5⟩ := h
  refine ⟨h1, h2, h3, h4, h5, h6, h7, h8, h9, h10, ⟨by simp, fun x hx => ?_⟩, h12, h13, h14, h15, h16, h17⟩
  simp only [List.mem_singleton] at hx
  subst hx
  rw [dChange_ok]
  exact ⟨c1, c2, c3, c4, someS_ok⟩
theorem unsigned7X_s [Wd] (m : MsgD) (hm : dMsg.ok m) (hk : (m.kind == 7) = true) (hc : ((m.changes.length : Int) == 1) = false) (hs : signedK m.kind = false) (h0 : ¬ checkE m = 0) : FnP Tryz.prog 109 [.agg (cMsg m)] (.tup [.nils, .int .i64 (checkE m)]) := by
  refine mkS 51 [] Tryz.func109 rfl (by kernel_rfl) ?_
  repeat'
    (conv => arg 2; whnf)
    first
    | refine okAsk (by kernel_rfl) ?_
    | refine okBrT ?_
    | refine okBrF ?_
    | refine okBr (fun h => ?_) (fun h => ?_)
    | refine okFn some_s rfl (Cos.refl _) ?_
    | refine okFn (signed_s _) rfl (Cos.refl _) ?_
    | refine okFn (bytesNo_s m hm h0) rfl (Cos.refl _) ?_
    | refine endFn0 (.inr rfl) rfl (.refl _) rfl
    | (exfalso; simp_all; done)
/-- what message.Unsigned answers -/
noncomputable def uR (m : MsgD) : D := if bytesE (withS m) = 0 then .tup [.list 1 ((unsB m).map cByte), .int .i64 0] else .tup [.nils, .int .i64 (bytesE (withS m))]
theorem unsigned_s [Wd] (m : MsgD) (hm : dMsg.ok m) : FnP Tryz.prog 109 [.agg (cMsg m)] (uR m) := by
  have hL : checkE (withS m) = 0 → kindE (withS m) = 0 ∧ (unsB m).length + 300 ≤ big := fun h => by
    have hk := msgE_kind (checkE_msg h)
    refine ⟨hk, ?_⟩
    have := unsB_len hk
    rw [unsB_withS] at this
    unfold big; omega
  have hU := unsB_withS m
  unfold uR bytesE
  cases h7 : m.kind == 7 with
  | false =>
    have k7 : ¬ m.kind = 7 := by simpa using h7
    cases hs : signedK m.kind with
    | true =>
      have ew : withS m = { m with sign := someS } := by unfold withS; rw [if_neg (fun h => k7 h.1), if_pos hs]
      have ef : fullB { m with sign := someS } = unsB { m with sign := someS } ++ signP someS := by
        unfold fullB
        simp only
        rw [if_neg k7, if_pos hs]
      have hw := sign_ok hm
      rw [ew] at hL hU
      rw [ew, ef]
      by_cases h0 : checkE { m with sign := someS } = 0
      · obtain ⟨hk0, hl⟩ := hL h0
        rw [← hU] at hl
        by_cases hb : 262144 < (unsB { m with sign := someS } ++ signP someS).length
        · rw [if_pos h0, if_pos hb, if_neg (by decide)]
          exact unsignedSL_s m hw h7 hs h0 hk0 hl hb
        · rw [if_pos h0, if_neg hb, if_pos rfl, ← hU]
          exact unsignedS_s m hw h7 hs h0 hk0 hl hb
      · rw [if_neg h0, if_neg h0]
        exact unsignedSNo_s m hw h7 hs h0
    | false =>
      have ew : withS m = m := by unfold withS; rw [if_neg (fun h => k7 h.1), if_neg (by rw [hs]; simp)]
      have ef : fullB m = unsB m := by
        unfold fullB
        rw [if_neg k7, if_neg (by rw [hs]; simp), List.append_nil]
      rw [ew] at hL
      rw [ew, ef]
      by_cases h0 : checkE m = 0
      · obtain ⟨hk0, hl⟩ := hL h0
        by_cases hb : 262144 < (unsB m).length
        · rw [if_pos h0, if_pos hb, if_neg (by decide)]
          exact unsignedFL_s m hm h7 hs h0 hk0 hl hb
        · rw [if_pos h0, if_neg hb, if_pos rfl]
          exact unsignedF_s m hm h7 hs h0 hk0 hl hb
      · rw [if_neg h0, if_neg h0]
        exact unsignedFNo_s m hm h7 hs h0
  | true =>
    have k7 : m.kind = 7 := by simpa using h7
    have hs : signedK m.kind = false := by rw [k7]; rfl
    by_cases hc : m.changes.length = 1
    · obtain ⟨c, hc⟩ := one_of hc
      have ew : withS m = { m with changes := [{ c with sign := someS }] } := by unfold withS; rw [if_pos ⟨k7, by rw [hc]; rfl⟩, hc]; rfl
      have ef : fullB { m with changes := [{ c with sign := someS }] } = unsB { m with changes := [{ c with sign := someS }] } ++ signP someS := by
        unfold fullB
        simp only
        rw [if_pos k7]
      have hw := chg_ok hm hc
      rw [ew] at hL hU
      rw [ew, ef]
      by_cases h0 : checkE { m with changes := [{ c with sign := someS }] } = 0
      · obtain ⟨hk0, hl⟩ := hL h0
        rw [← hU] at hl
        by_cases hb : 262144 < (unsB { m with changes := [{ c with sign := someS }] } ++ signP someS).length
        · rw [if_pos h0, if_pos hb, if_neg (by decide)]
          exact unsigned7L_s m c hw h7 hc h0 hk0 hl hb
        · rw [if_pos h0, if_neg hb, if_pos rfl, ← hU]
          exact unsigned7_s m c hw h7 hc h0 hk0 hl hb
      · rw [if_neg h0, if_neg h0]
        exact unsigned7No_s m c hw h7 hc h0
    · have ew : withS m = m := by unfold withS; rw [if_neg (fun h => hc h.2), if_neg (by rw [hs]; simp)]
      have h0 : ¬ checkE m = 0 := fun h => by
        have hk := msgE_kind (checkE_msg h)
        unfold kindE at hk
        simp only [k7] at hk
        have := rangeE0 (orE_zero.1 hk).1
        omega
      rw [ew, if_neg h0, if_neg h0]
      exact unsigned7X_s m hm h7 (by
        rw [beq_eq_false_iff_ne]
        omega) hs h0
/-- message.Unsigned over readings -/
theorem mUns_c {inn : Nat → Prop} {w : World} {cs : List Value} {x : MsgD} (hx : tMsg.rd inn w cs x) :
    Calls Tryz.prog 109 #[.agg cs.toArray] w fun r w' => ∃ v, r = .returned (.tuple #[v, .int .i64 (bytesE (withS x))]) ∧ B w w' ∧ (bytesE (withS x) = 0 → Bs w' v (unsB x)) := by
  refine ((unsigned_s x (LkMsg.to hx).2.1).calls (LkMsg.arg hx) trivial).mono ?_
  rintro e w' ⟨v, I', rfl, hb, hv, _⟩
  unfold uR at hv
  by_cases h : bytesE (withS x) = 0
  · rw [if_pos h] at hv
    obtain ⟨vs, rfl, h2⟩ := hv.tup_inv
    obtain ⟨v1, vs, rfl, p1, h2⟩ := h2.uncons
    obtain ⟨v2, vs, rfl, p2, h2⟩ := h2.uncons
    obtain rfl := h2.nil_inv
    rw [p2.int_inv]
    refine ⟨v1, by rw [h], hb, fun _ => p1.list_inv.bs ?_⟩
    have hk := unsB_len (msgE_kind (checkE_msg (bytesE0.1 h).1))
    rw [unsB_withS] at hk
    unfold big; omega
  · rw [if_neg h] at hv
    obtain ⟨vs, rfl, h2⟩ := hv.tup_inv
    obtain ⟨v1, vs, rfl, p1, h2⟩ := h2.uncons
    obtain ⟨v2, vs, rfl, p2, h2⟩ := h2.uncons
    obtain rfl := h2.nil_inv
    rw [p2.int_inv, p1.nils_inv]
    exact ⟨_, rfl, hb, fun h1 => absurd h1 h⟩
end Go.Proofs.YtafomdobfmmleaaGreatDoor

/- The reference's names: a rune's size, the rune with which a text begins. -/
namespace Go.Proofs.YtafomdobfmmleaaGreatDoor
open Go.RowKit Go.Deep
set_option linter.unusedVariables false

set_option maxRecDepth 20000 in
theorem rSize_c (w : World) (k : Nat) (hk : k < 256) : Calls Tryz.prog 141 #[.int .u8 (k : Int)] w fun e w' => e = .returned (.int .i64 (sizeN k : Int)) ∧ w = w' := by
  have HK := Lib.hid (show sizeN k = if k < 128 then 1 else if 194 ≤ k ∧ k < 224 then 2 else if 224 ≤ k ∧ k < 240 then 3 else if 240 ≤ k ∧ k < 245 then 4 else 0 from rfl)
  generalize sizeN k = z at *
  have g1 : (0 : Int) ≤ k := by omega
  go_enter Tryz.func141, Tryz.ntmps141
  go_wp2
  all_goals
    go_ret
    refine ⟨?_, rfl⟩
    rw [HK.out]
    refine congrArg (fun x => Ending.returned (Value.int .i64 x)) ?_
    repeat' split
    all_goals omega
end Go.Proofs.YtafomdobfmmleaaGreatDoor
