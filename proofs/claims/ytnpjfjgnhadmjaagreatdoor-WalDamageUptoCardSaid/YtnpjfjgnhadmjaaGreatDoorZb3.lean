/- Lemmas and contracts, part 3. -/
import Derived.Test.YtnpjfjgnhadmjaaGreatDoorZb2
import Derived.Shelf.SlIter.Nil
import Derived.Shelf.SortM.Plain
import Derived.Shelf.SortM.SortNone
import Derived.Ground.GgzProg
import Derived.Ground.SlgmProg
import Derived.Test.YtnpjfjgnhadmjaaGreatDoorRows
import Derived.Lib.ConvBytes
/- The library's contracts on slices.Sorted over maps.Keys, laid at this translation. -/
namespace Go.Proofs.YtnpjfjgnhadmjaaGreatDoor
open Go.RowKit Go.Maps Go.Sort Go.Shelf Go.Proofs

def Tryz.keys103_ren : Go.Shelf.Ren := ⟨fun | 7 => 103 | 10 => 120 | n => n, fun | 23 => 84 | 26 => 9 | 3 => 111 | 28 => 144 | 0 => 0 | 27 => 143 | 33 => 162 | 4 => 4 | n => n, fun | n => n⟩
theorem Tryz.keys103 : Go.Proofs.SlLaysZ.n7 Tryz.prog Tryz.keys103_ren := {
  mixed := by kernel_rfl
  f7 := ⟨Tryz.f103.name, by decide, Tryz.func103.trans (congrArg some (by kernel_rfl))⟩
  f10 := ⟨Tryz.f120.name, by decide, Tryz.func120.trans (congrArg some (by kernel_rfl))⟩
  t0 := Tryz.underlying0
  a0 := Tryz.isAgg0
  z0 := Tryz.sizeOf0
  v0 := Tryz.zeroValue0
  t4 := Tryz.underlying4
  a4 := Tryz.isAgg4
  z4 := Tryz.sizeOf4
  v4 := Tryz.zeroValue4
  t23 := Tryz.underlying84
  a23 := Tryz.isAgg84
  z23 := Tryz.sizeOf84
  v23 := Tryz.zeroValue84
  t26 := Tryz.underlying9
  a26 := Tryz.isAgg9
  z26 := Tryz.sizeOf9
  v26 := Tryz.zeroValue9
  t27 := Tryz.underlying143
  a27 := Tryz.isAgg143
  z27 := Tryz.sizeOf143
  v27 := Tryz.zeroValue143
  t28 := Tryz.underlying144
  a28 := Tryz.isAgg144
  z28 := Tryz.sizeOf144
  v28 := Tryz.zeroValue144
  t33 := Tryz.underlying162
  a33 := Tryz.isAgg162
  z33 := Tryz.sizeOf162
  v33 := Tryz.zeroValue162 }
def Tryz.sorted102_ren : Go.Shelf.Ren := ⟨fun | 6 => 102 | 8 => 118 | 9 => 119 | 11 => 131 | 13 => 133 | 12 => 132 | 23 => 150 | 24 => 151 | 14 => 141 | 15 => 142 | 16 => 143 | 17 => 144 | 18 => 145 | 19 => 146 | 20 => 147 | 21 => 148 | 22 => 149 | 25 => 158 | 26 => 159 | 27 => 160 | 28 => 161 | 29 => 162 | 30 => 163 | 31 => 166 | n => n, fun | 26 => 9 | 28 => 144 | 24 => 102 | 0 => 0 | 3 => 3 | 37 => 76 | 48 => 29 | 50 => 119 | 4 => 4 | 40 => 188 | 39 => 187 | 45 => 192 | 5 => 5 | 9 => 9 | 51 => 204 | 55 => 208 | 57 => 210 | 58 => 211 | 33 => 162 | n => n, fun | n => n⟩
theorem Tryz.sorted102 : Go.Proofs.SlLaysZ.n6 Tryz.prog Tryz.sorted102_ren := {
  mixed := by kernel_rfl
  f6 := ⟨Tryz.f102.name, by decide, Tryz.func102.trans (congrArg some (by kernel_rfl))⟩
  f8 := ⟨Tryz.f118.name, by decide, Tryz.func118.trans (congrArg some (by kernel_rfl))⟩
  f11 := ⟨Tryz.f131.name, by decide, Tryz.func131.trans (congrArg some (by kernel_rfl))⟩
  t0 := Tryz.underlying0
  a0 := Tryz.isAgg0
  z0 := Tryz.sizeOf0
  v0 := Tryz.zeroValue0
  t24 := Tryz.underlying102
  a24 := Tryz.isAgg102
  z24 := Tryz.sizeOf102
  v24 := Tryz.zeroValue102
  t26 := Tryz.underlying9
  a26 := Tryz.isAgg9
  z26 := Tryz.sizeOf9
  v26 := Tryz.zeroValue9
  t28 := Tryz.underlying144
  a28 := Tryz.isAgg144
  z28 := Tryz.sizeOf144
  v28 := Tryz.zeroValue144
  i26 := by kernel_rfl }
def Tryz.sort119_ren : Go.Shelf.Ren := ⟨fun | 6 => 119 | 8 => 133 | 9 => 132 | 19 => 150 | 20 => 151 | 21 => 141 | 22 => 142 | 23 => 143 | 24 => 144 | 25 => 145 | 26 => 146 | 27 => 147 | 28 => 148 | 29 => 149 | 36 => 158 | 31 => 159 | 32 => 160 | 37 => 161 | 38 => 162 | 39 => 163 | 41 => 166 | n => n, fun | 27 => 102 | 29 => 9 | 3 => 3 | 32 => 76 | 26 => 102 | 0 => 0 | 44 => 29 | 46 => 119 | 4 => 4 | 36 => 188 | 35 => 187 | 41 => 192 | 5 => 5 | 9 => 9 | 53 => 204 | 57 => 208 | 63 => 210 | 64 => 211 | n => n, fun | n => n⟩
theorem Tryz.sort119 : Go.Proofs.SlLaysM.n6 Tryz.prog Tryz.sort119_ren := {
  mixed := by kernel_rfl
  f6 := ⟨Tryz.f119.name, by decide, Tryz.func119.trans (congrArg some (by kernel_rfl))⟩
  f8 := Tryz.func133.trans (congrArg some (by kernel_rfl))
  f9 := ⟨Tryz.f132.name, by decide, Tryz.func132.trans (congrArg some (by kernel_rfl))⟩
  f19 := Tryz.func150.trans (congrArg some (by kernel_rfl))
  f20 := Tryz.func151.trans (congrArg some (by kernel_rfl))
  f21 := ⟨Tryz.f141.name, by decide, Tryz.func141.trans (congrArg some (by kernel_rfl))⟩
  f22 := ⟨Tryz.f142.name, by decide, Tryz.func142.trans (congrArg some (by kernel_rfl))⟩
  f23 := ⟨Tryz.f143.name, by decide, Tryz.func143.trans (congrArg some (by kernel_rfl))⟩
  f24 := ⟨Tryz.f144.name, by decide, Tryz.func144.trans (congrArg some (by kernel_rfl))⟩
  f25 := ⟨Tryz.f145.name, by decide, Tryz.func145.trans (congrArg some (by kernel_rfl))⟩
  f26 := ⟨Tryz.f146.name, by decide, Tryz.func146.trans (congrArg some (by kernel_rfl))⟩
  f27 := ⟨Tryz.f147.name, by decide, Tryz.func147.trans (congrArg some (by kernel_rfl))⟩
  f28 := ⟨Tryz.f148.name, by decide, Tryz.func148.trans (congrArg some (by kernel_rfl))⟩
  f29 := ⟨Tryz.f149.name, by decide, Tryz.func149.trans (congrArg some (by kernel_rfl))⟩
  f31 := Tryz.func159.trans (congrArg some (by kernel_rfl))
  f32 := Tryz.func160.trans (congrArg some (by kernel_rfl))
  f36 := ⟨Tryz.f158.name, by decide, Tryz.func158.trans (congrArg some (by kernel_rfl))⟩
  f37 := ⟨Tryz.f161.name, by decide, Tryz.func161.trans (congrArg some (by kernel_rfl))⟩
  f38 := ⟨Tryz.f162.name, by decide, Tryz.func162.trans (congrArg some (by kernel_rfl))⟩
  f39 := ⟨Tryz.f163.name, by decide, Tryz.func163.trans (congrArg some (by kernel_rfl))⟩
  f41 := ⟨Tryz.f166.name, by decide, Tryz.func166.trans (congrArg some (by kernel_rfl))⟩
  t0 := Tryz.underlying0
  a0 := Tryz.isAgg0
  z0 := Tryz.sizeOf0
  v0 := Tryz.zeroValue0
  t3 := Tryz.underlying3
  a3 := Tryz.isAgg3
  z3 := Tryz.sizeOf3
  v3 := Tryz.zeroValue3
  t4 := Tryz.underlying4
  a4 := Tryz.isAgg4
  z4 := Tryz.sizeOf4
  v4 := Tryz.zeroValue4
  t5 := Tryz.underlying5
  a5 := Tryz.isAgg5
  z5 := Tryz.sizeOf5
  v5 := Tryz.zeroValue5
  t9 := Tryz.underlying9
  a9 := Tryz.isAgg9
  z9 := Tryz.sizeOf9
  v9 := Tryz.zeroValue9
  t26 := Tryz.underlying102
  a26 := Tryz.isAgg102
  z26 := Tryz.sizeOf102
  v26 := Tryz.zeroValue102
  t27 := Tryz.underlying102
  a27 := Tryz.isAgg102
  z27 := Tryz.sizeOf102
  v27 := Tryz.zeroValue102
  t29 := Tryz.underlying9
  a29 := Tryz.isAgg9
  z29 := Tryz.sizeOf9
  v29 := Tryz.zeroValue9
  t32 := Tryz.underlying76
  a32 := Tryz.isAgg76
  z32 := Tryz.sizeOf76
  v32 := Tryz.zeroValue76
  t35 := Tryz.underlying187
  a35 := Tryz.isAgg187
  z35 := Tryz.sizeOf187
  v35 := Tryz.zeroValue187
  t36 := Tryz.underlying188
  a36 := Tryz.isAgg188
  z36 := Tryz.sizeOf188
  v36 := Tryz.zeroValue188
  t41 := Tryz.underlying192
  a41 := Tryz.isAgg192
  z41 := Tryz.sizeOf192
  v41 := Tryz.zeroValue192
  t44 := Tryz.underlying29
  a44 := Tryz.isAgg29
  z44 := Tryz.sizeOf29
  v44 := Tryz.zeroValue29
  t46 := Tryz.underlying119
  a46 := Tryz.isAgg119
  z46 := Tryz.sizeOf119
  v46 := Tryz.zeroValue119
  t53 := Tryz.underlying204
  a53 := Tryz.isAgg204
  z53 := Tryz.sizeOf204
  v53 := Tryz.zeroValue204
  t57 := Tryz.underlying208
  a57 := Tryz.isAgg208
  z57 := Tryz.sizeOf208
  v57 := Tryz.zeroValue208
  t63 := Tryz.underlying210
  a63 := Tryz.isAgg210
  z63 := Tryz.sizeOf210
  v63 := Tryz.zeroValue210
  t64 := Tryz.underlying211
  a64 := Tryz.isAgg211
  z64 := Tryz.sizeOf211
  v64 := Tryz.zeroValue211 }

/-- slices.Sort's two contracts at this dump, at the fence that asks nothing. -/
theorem Tryz.sorts102 (m : Nat) : AnyZ.SortsIn Tryz.prog Tryz.sorted102_ren Fence.wide m :=
  ⟨fun blk off cap ss W hH hblk hsz => callsIn_wide.2 (AnyM.slices_Sort_string Tryz.sort119 blk off cap ss W hH hblk hsz),
   fun p cap W => callsIn_wide.2 (AnyM.slices_Sort_string_none Tryz.sort119 p cap W)⟩

/-- **maps.Keys[map[string]*bulla/disk.file,string,*bulla/disk.file], at whatever map, the nil one too:** a function value over ONE NEW BLOCK, which holds the map. -/
theorem Tryz.maps_Keys_103 (mb : Option Nat) (W : World) : CallsIn Fence.wide 5 Tryz.prog 103 #[.map mb] W fun e w' => e = .returned (.func (.func 120) #[] #[.pointer (some ⟨W.heap.size, 0, none⟩)]) ∧ w' = W.alloc (.cells #[.map mb] 84) :=
  AnyZ.keys_in Tryz.keys103 Fence.wide 5 trivial rfl mb W

set_option maxHeartbeats 1000000 in
/-- **slices.Sorted[string] AT WHAT maps.Keys[map[string]*bulla/disk.file,string,*bulla/disk.file] HANDED BACK FOR A MAP THAT IS NOT nil** ('w': the world AHEAD of maps.Keys' call): A NEW SLICE THAT HOLDS THE MAP's KEYS, SORTED; nil just where it has none; nothing that lay before has turned. -/
theorem Tryz.slices_Sorted_keys_102_103 {H : Type} (b nn : Nat) (D0 : DataW H) (R : Value → Option (DataW H × List MemPlace)) (w : World) (hown : w.ownsMap Tryz.prog 9 R b nn D0) (hmax : Maps.size D0 ≤ maxLen) (hbytes : Maps.size D0 * 16 ≤ 140737488355328) :
    CallsIn Fence.wide 5 Tryz.prog 102 #[.func (.func 120) #[] #[.pointer (some ⟨w.heap.size, 0, none⟩)]] (w.alloc (.cells #[.map (some b)] 84)) fun e w' => ∃ (v : Value) (ss : List (List UInt8)), e = .returned v ∧ ss.Perm (strKeys D0) ∧
      w'.ownsRow (w.alloc (.cells #[.map (some b)] 84)).heap.size 9 1 v ss.length ((ss.mergeSort (fun x y => decide (x ≤ y))).map encStr) ∧ (v = .slice none 0 0 ↔ ss = []) ∧ Below (w.alloc (.cells #[.map (some b)] 84)).heap.size (w.alloc (.cells #[.map (some b)] 84)) w' := by
  have hbl := hown.lt
  have hseq : SeqGives Fence.wide 2 Tryz.prog 120 #[.pointer (some ⟨w.heap.size, 0, none⟩)] encStr (fun ss => ss.Perm (strKeys D0)) (Maps.size D0) (w.alloc (.cells #[.map (some b)] 84)) :=
    AnyZ.keys_gives (ρ := Tryz.keys103_ren) { Tryz.keys103 with } Fence.wide _ trivial rfl (by omega) w.heap.size b nn D0 _ (by simp) (by simp) (by
      obtain ⟨es, clock, hb, Ft, hs, hD⟩ := hown
      exact ⟨es, clock, (Below.heap_alloc _ _ b hbl).trans hb, Ft, hs, hD⟩)
  exact AnyZ.sorted_in Tryz.sorted102 Fence.wide 5 trivial trivial trivial trivial rfl (by omega) (Tryz.sorts102 _) (enters_of Tryz.func119 (by kernel_rfl) rfl) 120 #[.pointer (some ⟨w.heap.size, 0, none⟩)] trivial (enters_of Tryz.func120 (by kernel_rfl) rfl) _ _ hmax hbytes _ hseq

set_option maxHeartbeats 1000000 in
/-- **.. AND FOR THE nil MAP: nil.** -/
theorem Tryz.slices_Sorted_keys_nil_102_103 (w : World) :
    CallsIn Fence.wide 5 Tryz.prog 102 #[.func (.func 120) #[] #[.pointer (some ⟨w.heap.size, 0, none⟩)]] (w.alloc (.cells #[.map none] 84)) fun e w' => ∃ (v : Value) (ss : List (List UInt8)), e = .returned v ∧ ss = [] ∧
      w'.ownsRow (w.alloc (.cells #[.map none] 84)).heap.size 9 1 v ss.length ((ss.mergeSort (fun x y => decide (x ≤ y))).map encStr) ∧ (v = .slice none 0 0 ↔ ss = []) ∧ Below (w.alloc (.cells #[.map none] 84)).heap.size (w.alloc (.cells #[.map none] 84)) w' := by
  have hseq : SeqGives Fence.wide 2 Tryz.prog 120 #[.pointer (some ⟨w.heap.size, 0, none⟩)] encStr (fun ss : List (List UInt8) => ss = []) 0 (w.alloc (.cells #[.map none] 84)) :=
    AnyZ.keys_gives_nil (ρ := Tryz.keys103_ren) { Tryz.keys103 with } Fence.wide _ trivial rfl w.heap.size _ (by simp) (by simp)
  exact AnyZ.sorted_in Tryz.sorted102 Fence.wide 5 trivial trivial trivial trivial rfl (by omega) (Tryz.sorts102 _) (enters_of Tryz.func119 (by kernel_rfl) rfl) 120 #[.pointer (some ⟨w.heap.size, 0, none⟩)] trivial (enters_of Tryz.func120 (by kernel_rfl) rfl) _ 0 (Nat.zero_le _) (by omega) _ hseq




end Go.Proofs.YtnpjfjgnhadmjaaGreatDoor

/- Crash, New of a disk. -/
namespace Go.Proofs.YtnpjfjgnhadmjaaGreatDoor
open Go.RowKit Go.Maps Go.Deep Go.Sort Go.Shelf
set_option linter.unusedVariables false

theorem bb_le : ∀ a b : List UInt8, bytesBefore a b = true → a ≤ b
  | [], [], h => by simp [bytesBefore] at h
  | [], _ :: _, _ => List.nil_le _
  | _ :: _, [], h => by simp [bytesBefore] at h
  | a :: r, b :: s, h => by
    simp only [bytesBefore, Bool.or_eq_true, Bool.and_eq_true, decide_eq_true_eq, beq_iff_eq] at h
    rw [List.cons_le_cons_iff]
    rcases h with h | ⟨rfl, h⟩
    · exact .inl h
    · exact .inr ⟨rfl, bb_le r s h⟩
def aStr (v : Value) (L : List (List UInt8)) : Asn := aRow 9 1 v L.length (L.map fun n => .string (bstr n))
section
variable {W w : World} {p m : Nat} {d : Dk} {E : List (Fl × Nat)} {X : List Asn} {n : List UInt8}
theorem list_c (h : St W w (aDisk p d :: X)) : Calls Tryz.prog 61 #[.pointer (some ⟨p, 0, none⟩)] w fun e w' => ∃ v, e = .returned v ∧ St W w' (aStr v (d.R.map Fl.nm) :: aDisk p d :: X) := by
  have H0 := Lib.hid h
  obtain ⟨m, E, hE, h⟩ := aDisk.open_ h
  have hb := dkL.blk h
  have c1 := hb.cell 1
  simp at c1
  have HN := Lib.hid (none_c hb)
  obtain ⟨n0, hmap⟩ := aMap.get h.swap
  have hme := many_E hE
  have HK := Lib.hid (callsIn_wide.1 (Tryz.maps_Keys_103 (some m) w))
  have HS := Lib.hid (callsIn_wide.1 (Tryz.slices_Sorted_keys_102_103 m n0 (dOf E) ptrElem w hmap (by rw [dOf_size]; unfold maxLen; omega) (by rw [dOf_size]; omega)))
  have HP := Lib.hid (show ∀ ss : List (List UInt8), ss.Perm (strKeys (dOf E)) → ss.length = (d.R.map Fl.nm).length ∧ ss.mergeSort (fun x y => decide (x ≤ y)) = d.R.map Fl.nm from fun ss hss => by
    rw [dOf_keys, hE.2] at hss
    refine ⟨hss.length_eq, ?_⟩
    have h1 := mergeSort_of_perm hss
    have h2 : (d.R.map Fl.nm).Pairwise (fun a b => leB a b = true) := List.pairwise_map.2 (hE.1.rise.imp fun {a b} hab => by
      simp only [leB, decide_eq_true_eq]; exact bb_le _ _ hab)
    rw [List.mergeSort_of_pairwise h2] at h1
    exact h1)
  clear h hE hb hmap hme
  go_enter Tryz.func61, Tryz.ntmps61
  go_wp2_with (first
    | (go_at_call 72; (with_reducible refine HN.out.mono ?_); rintro e w1 ⟨rfl, rfl⟩)
    | (go_at_call 103; (with_reducible refine HK.out.mono ?_); rintro e w1 ⟨rfl, rfl⟩)
    | (go_at_call 102; (with_reducible refine HS.out.mono ?_); rintro e w2 ⟨v, ss, rfl, hp, hrow, hnil, hb2⟩; have HP2 := Lib.hid (HP.out ss hp); have HR2 := Lib.hid hrow; have HB2 := Lib.hid hb2; clear hp hrow hnil hb2))
  go_ret
  refine ⟨_, rfl, ?_⟩
  have h1 := (H0.out.later (B.alloc' w _)).addRow HB2.out HR2.out
  rw [HP2.out.2, HP2.out.1] at h1
  exact h1
theorem names_le (h : St W w (dkL p m d E ++ X)) (hE : DkE d (m, E)) : ∀ f ∈ d.R, f.nm.length ≤ maxLen := by
  intro f hf
  obtain ⟨n0, hn⟩ := aMap.get h.swap
  obtain ⟨es, h1, h2⟩ := hn.keysOf
  rw [← hE.2] at hf
  obtain ⟨x, hx, rfl⟩ := List.mem_map.1 hf
  have he : es = E.map entOf := (DataW.map.inj h1).symm
  obtain ⟨v, hv⟩ := h2 (entOf x) (by rw [he]; exact List.mem_map.2 ⟨x, hx, rfl⟩)
  obtain ⟨y, _, e2, e3⟩ := Maps.keyOf_str Tryz.underlying9 hv
  have e2 := Lit.string.inj e2
  rw [e2]; exact e3
theorem set_ok (h : d.ok) {i : Nat} {f f' : Fl} (hi : d.R[i]? = some f) (hn : f'.nm = f.nm) (hs : f'.sure ≤ f'.b.length) (hl : f'.b.length ≤ f.b.length) : ({ d with R := d.R.set i f' } : Dk).ok := by
  refine ⟨set_rise h.rise hi hn, fun x hx => ?_, ?_, h.room, ?_⟩
  · rcases mem_set hx with hx | rfl
    · exact h.sure x hx
    · exact hs
  · have := used_set (g := f') hi
    have := h.used
    show ((usedF (d.R.set i f') : Nat) : Int) ≤ d.room
    omega
  · show (d.R.set i f').length ≤ 64
    rw [List.length_set]; exact h.many
/-- a disk on the way of a crash -/
def crashQ (k : Int) (d : Dk) (q : Nat) : Dk := { d with R := (d.R.take q).map (crashB k) ++ d.R.drop q }
theorem crashQ_at {k : Int} {q : Nat} {f : Fl} (h : d.R[q]? = some f) : (crashQ k d q).R[q]? = some f := by
  have hq : q < d.R.length := by
    rcases Nat.lt_or_ge q d.R.length with h' | h'
    · exact h'
    · rw [List.getElem?_eq_none h'] at h; cases h
  unfold crashQ
  simp only
  rw [List.getElem?_append_right (by simp; omega)]
  simp [Nat.min_eq_left (Nat.le_of_lt hq), h]
theorem crashQ_next {k : Int} {q : Nat} {f : Fl} (h : d.R[q]? = some f) : ({ crashQ k d q with R := (crashQ k d q).R.set q (crashB k f) } : Dk) = crashQ k d (q + 1) := by
  have hq : q < d.R.length := by
    rcases Nat.lt_or_ge q d.R.length with h' | h'
    · exact h'
    · rw [List.getElem?_eq_none h'] at h; cases h
  have he : d.R[q] = f := by rw [List.getElem?_eq_getElem hq] at h; exact Option.some.inj h
  unfold crashQ
  simp only
  congr 1
  rw [List.set_append_right _ _ (by simp; omega)]
  simp only [List.length_map, List.length_take, Nat.min_eq_left (Nat.le_of_lt hq), Nat.sub_self]
  rw [List.drop_eq_getElem_cons hq, List.set_cons_zero, List.take_succ_eq_append_getElem hq, List.map_append, he]
  simp
theorem new_no {k : Int} (h : St W w X) (hk : k < 0 ∨ 4194304 < k) : Calls Tryz.prog 16 #[.int .i64 k] w fun e w' => e = .returned (.tuple #[.pointer none, .int .i64 1]) ∧ St W w' X := by
  have H0 := Lib.hid h
  by_cases h1 : k < 0
  · clear h hk
    go_enter Tryz.func16, Tryz.ntmps16
    go_wp2
    go_ret2
    exact ⟨rfl, H0.out⟩
  · have h2 : 4194304 < k := by omega
    clear h hk
    go_enter Tryz.func16, Tryz.ntmps16
    go_wp2
    go_ret2
    exact ⟨rfl, H0.out⟩
theorem new_yes {k : Int} (h : St W w X) (hk : ¬ (k < 0 ∨ 4194304 < k)) : Calls Tryz.prog 16 #[.int .i64 k] w fun e w' => ∃ p, e = .returned (.tuple #[.pointer (some ⟨p, 0, none⟩), .int .i64 0]) ∧ St W w' (aDisk p ⟨[], k, false⟩ :: X) := by
  have h1 : ¬ k < 0 := by omega
  have h2 : ¬ 4194304 < k := by omega
  have hmm := @run_makeMap Tryz.prog
  have HS := Lib.hid (show St W ((w.alloc (.map #[] 0)).alloc (.cells #[.int .i64 k, .map (some w.heap.size), .bool false] 86)) (aDisk (w.heap.size + 1) ⟨[], k, false⟩ :: X) from by
    have h3 := aBlk.new (aMap.new (P := Tryz.prog) (k := 9) h) 86 #[.int .i64 k, .map (some w.heap.size), .bool false]
    rw [show (w.alloc (.map #[] 0)).heap.size = w.heap.size + 1 by simp] at h3
    exact aDisk.shut (m := w.heap.size) (E := []) ⟨⟨List.Pairwise.nil, fun f hf => (by cases hf), by simp [usedF]; omega, ⟨by simp only; omega, by simp only; omega⟩, by simp⟩, rfl⟩ h3)
  clear h hk
  go_enter Tryz.func16, Tryz.ntmps16
  go_wp2
  go_ret2
  exact ⟨_, rfl, HS.out⟩
set_option maxRecDepth 20000 in
set_option maxHeartbeats 4000000 in
theorem crash_c {k : Int} (h : St W w (aDisk p d :: X)) (hk : -9223372036854775808 ≤ k ∧ k ≤ 9223372036854775807) : Calls Tryz.prog 38 #[.pointer (some ⟨p, 0, none⟩), .int .i64 k] w fun e w' => e = .returned (.int .i64 (crashF d k).1) ∧ St W w' (aDisk p (crashF d k).2 :: X) := by
  have H0 := Lib.hid h
  have HL := Lib.hid (list_c h)
  obtain ⟨m0, E0, hE0, h0⟩ := aDisk.open_ h
  have HC := Lib.hid (can_c (dkL.blk h0))
  unfold crashF
  cases ho : d.off with
  | true =>
    rw [ho] at HC
    rw [if_pos rfl]
    clear h hk h0 hE0 HL ho
    go_enter Tryz.func38, Tryz.ntmps38
    go_wp2_with (first | (go_at_call 76; (with_reducible refine HC.out.mono ?_); rintro e w1 ⟨rfl, rfl⟩))
    go_ret
    exact ⟨rfl, H0.out⟩
  | false =>
    rw [ho] at HC
    rw [if_neg (by simp)]
    have HD := Lib.hid hE0.1
    have HO := Lib.hid ho
    have HKB := Lib.hid hk
    clear h hk h0 hE0 H0
    obtain ⟨N, hN⟩ : ∃ N, d.R.length = N := ⟨_, rfl⟩
    have HN := Lib.hid hN
    have hNl : N ≤ 64 := by have := HD.out.many; omega
    have hNm : (d.R.map Fl.nm).length = N := by simp [hN]
    go_enter Tryz.func38, Tryz.ntmps38
    go_wp2_with (first
      | (go_at_call 76; (with_reducible refine HC.out.mono ?_); rintro e w1 ⟨rfl, rfl⟩)
      | (go_at_call 61; (with_reducible refine HL.out.mono ?_); rintro e w2 ⟨v2, rfl, hS⟩; unfold aStr at hS; rw [hNm] at hS; obtain ⟨A2, c2, rfl⟩ := St.rowSlice hS; have H2 := Lib.hid hS; clear hS))
    go_loopw [18] (fun i wr => ∃ q : Nat, q ≤ N ∧ i = .int .i64 q ∧ Hid (St W wr (aRow 9 1 (.slice A2 N c2) N ((d.R.map Fl.nm).map fun n => .string (bstr n)) :: aDisk p (crashQ k d q) :: X))) (fun i _ => N - (intOf i).toNat)
    case atStart => exact ⟨0, Nat.zero_le _, rfl, by have e : crashQ k d 0 = d := by { unfold crashQ; simp }; rw [e]; exact H2.out⟩
    case round =>
      obtain ⟨q, hq, rfl, HS⟩ := hrel
      clear HL HC H2 hN hNm
      by_cases hlt : q < N
      · have hqi : (q : Int) < N := by omega
        have hqd : q < d.R.length := by have := HN.out; omega
        obtain ⟨f, hf⟩ : ∃ f, d.R[q]? = some f := ⟨_, List.getElem?_eq_getElem hqd⟩
        obtain ⟨gA, hgA⟩ := St.rowSome HS.out (by omega)
        subst hgA
        have kn := HS.out.rowAt (j := q) (x := .string (bstr f.nm)) (by simp [hf])
        have hd := HS.out.swap
        obtain ⟨m, E, hE, hd⟩ := aDisk.open_ hd
        have hfq := crashQ_at (k := k) hf
        have hxx : ∃ x, E[q]? = some x ∧ x.1 = f := by
          rw [← hE.2] at hfq
          simp only [flsOf, List.getElem?_map, Option.map_eq_some_iff] at hfq
          exact hfq
        obtain ⟨x, hx, hxf⟩ := hxx
        have hs := hE.1.rise
        rw [← hE.2] at hs
        have hnl := names_le hd hE x.1 (by rw [← hE.2]; exact List.mem_map.2 ⟨x, List.mem_of_getElem? hx, rfl⟩)
        have hl := look_yes hd hnl (ix_self hs hx) hx
        have c1 := (dkL.blk hd).cell 1
        simp at c1
        have hfs : f.sure ≤ f.b.length := HD.out.sure f (List.mem_of_getElem? hf)
        have hok := set_ok (f' := crashB k f) hE.1 hfq (crashB_ok k hfs).1 (by rw [(crashB_ok k hfs).2.1]; exact Nat.le_refl _) (crashB_ok k hfs).2.2.1
        have hnx := crashQ_next (k := k) hf
        have hfl := small_file hE hx
        rw [hxf] at hnl hl hfl
        obtain ⟨A, c, hv⟩ := turn_open hd hx
        rw [hxf] at hv
        obtain ⟨A0, cc, e0, hbs⟩ := file_bs hE hx hd
        rw [hxf] at e0 hbs
        have hb := aBlk.get hv
        have c0 := hb.cell 0
        simp at c0
        obtain ⟨rfl, rfl⟩ : A0 = A ∧ cc = c := by rw [c0] at e0; simp at e0; exact ⟨e0.1.symm, e0.2.symm⟩
        have hb0 : 0 ≤ bareF k := by unfold bareF; split <;> (try split) <;> omega
        have hbm : bareF k ≤ 9223372036854775807 := by have := HKB.out; unfold bareF; split <;> (try split) <;> omega
        have hm1 := Int.emod_nonneg (bareF k) (b := (f.b.length : Int) - f.sure + 1) (by omega)
        have hm2 := Int.emod_lt_of_pos (bareF k) (b := (f.b.length : Int) - f.sure + 1) (by omega)
        obtain ⟨mo, hmo⟩ := Int.eq_ofNat_of_zero_le hm1
        have hmt : Int.tmod (bareF k) ((f.b.length : Int) - f.sure + 1) = (mo : Int) := by rw [Int.tmod_eq_emod_of_nonneg hb0]; exact hmo
        rw [hmo] at hm2
        obtain ⟨j, hj⟩ : ∃ j, f.sure + mo = j := ⟨_, rfl⟩
        have hjl : j ≤ f.b.length := by omega
        have hcb : crashB k f = ⟨f.nm, f.b.take j, j⟩ := by unfold crashB; simp only; rw [hmo, Int.toNat_natCast, hj]
        obtain ⟨A1, c3, s1, s2, hb1, _⟩ := hbs.cutTo j hjl
        rw [show (j : Int) = (f.sure : Int) + (mo : Int) by omega] at s1 s2
        have HCL := Lib.hid (fun (w' : World) (hw : B wr w') => sclone_c (hb1.later hw))
        have hlt2 : (f.b.take j).length = j := by rw [List.length_take]; omega
        have HV := Lib.hid (fun (w' w2 : World) (hw : B wr w') (hw2 : B w' w2) (v : Value) (hr : w2.ownsRow w'.heap.size 5 1 v (f.b.take j).length (cellsB (f.b.take j))) => ((hv.later hw).addRow hw2 hr))
        have HLJ := Lib.hid hlt2
        obtain ⟨y, g⟩ := x
        simp only at hxf
        subst hxf
        have HK := Lib.hid (fun (w' : World) (A' : Option Addr) (c' : Nat) (hS : St W w' (aRow 5 1 (.slice A' j c') j (cellsB (y.b.take j)) :: aBlk g 113 #[.slice A0 y.b.length cc, .int .i64 (y.sure : Int)] :: aRow 5 1 (.slice A0 y.b.length cc) y.b.length (cellsB y.b) :: aBlk p 86 #[.int .i64 (crashQ k d q).room, .map (some m), .bool (crashQ k d q).off] :: aMap Tryz.prog 9 m (dOf E) :: ((E.take q ++ E.drop (q + 1)).map aFile ++ (aRow 9 1 (.slice (some ⟨gA, 0, none⟩) N c2) N ((d.R.map Fl.nm).map fun n => .string (bstr n)) :: X)))) =>
          show St W ((w'.setCell ⟨g, 0, none⟩ (.slice A' j c')).setCell ⟨g, 1, none⟩ (.int .i64 (j : Int))) (aRow 9 1 (.slice (some ⟨gA, 0, none⟩) N c2) N ((d.R.map Fl.nm).map fun n => .string (bstr n)) :: aDisk p (crashQ k d (q + 1)) :: X) from by
          have := turn_both (w := w') (A' := A') (c' := c') (n' := j) (x := (y, g)) (f' := crashB k y) hE hx (crashB_ok k hfs).1 hok (by rw [hcb]; exact hS) (by rw [hcb]; exact hlt2.symm)
          rw [hnx] at this
          rw [hcb] at this
          exact this.swap)
        have HBC := Lib.hid (fun (w' : World) (hw : B wr w') => show w'.cell? ⟨g, 0, none⟩ = some (.slice A0 y.b.length cc) ∧ w'.cell? ⟨g, 1, none⟩ = some (.int .i64 (y.sure : Int)) ∧ w'.frozen? ⟨g, 0, none⟩ = false ∧ w'.frozen? ⟨g, 1, none⟩ = false from by
          have hb2 := hb.later hw
          have k0 := hb2.cell 0
          have k1 := hb2.cell 1
          simp at k0 k1
          exact ⟨k0, k1, hb2.frozen 0, hb2.frozen 1⟩)
        have l1 : ∀ w', B wr w' → w'.cell? ⟨g, 0, none⟩ = some (.slice A0 y.b.length cc) := fun w' hw => (HBC.out w' hw).1
        have l2 : ∀ w', B wr w' → w'.cell? ⟨g, 1, none⟩ = some (.int .i64 (y.sure : Int)) := fun w' hw => (HBC.out w' hw).2.1
        have HBR := Lib.hid (fun w => bare_c w k HKB.out)
        have hw1 : IntKind.i64.wrap ((y.b.length : Int) - (y.sure : Int)) = (y.b.length : Int) - (y.sure : Int) := wrap_sub (by omega) (by omega)
        have hw2 : IntKind.i64.wrap ((y.b.length : Int) - (y.sure : Int) + 1) = (y.b.length : Int) - (y.sure : Int) + 1 := wrap_add (by omega) (by omega)
        have hw3 : IntKind.i64.wrap ((y.sure : Int) + (mo : Int)) = (y.sure : Int) + (mo : Int) := wrap_add (by omega) (by omega)
        have hdv : ((y.b.length : Int) - (y.sure : Int) + 1 == 0) = false := by rw [beq_eq_false_iff_ne]; omega
        have hdv2 : ¬ ((y.b.length : Int) - (y.sure : Int) + 1 = 0) := by omega
        have hdv3 : 0 < (y.b.length : Int) - (y.sure : Int) + 1 := by omega
        have hsi : (y.sure : Int) ≤ (y.b.length : Int) := by omega
        have hsm : (y.sure : Int) + (mo : Int) ≤ (y.b.length : Int) := by omega
        have hyl : (y.b.length : Int) ≤ 4194304 := by omega
        generalize bareF k = bk at *
        clear hd hE hfq hx hs hnl hok hnx hv hb hbs e0 hb1 hcb hlt2 hf hqd hm1 hm2 hmo HS
        go_wp2_with fail
        go_region_held3 (fun w' => B wr w') (first | assumption | exact (Below.refl _ _).drew | exact B.trans (by assumption) (Below.refl _ _).drew) (first
          | (go_at_call 77; (with_reducible refine (HBR.out _).mono ?_); rintro e w3 ⟨rfl, rfl⟩))
        all_goals
          have hlast := ‹B wr _›
          go_wp2_with fail
          generalize wr.drew = w5 at *
          obtain ⟨k0, k1, f0, f1⟩ := HBC.out _ hlast
          have HL5 := Lib.hid (B.trans hlast (Below.refl _ _).drew)
          go_region_with (first
            | (go_at_call 32; (with_reducible refine (HCL.out _ HL5.out).mono ?_); rintro e w6 ⟨v6, rfl, r6, hb6⟩; obtain ⟨k0', k1', f0', f1'⟩ := HBC.out _ (HL5.out.trans hb6); have hS := HV.out _ _ HL5.out hb6 _ r6; simp only [HLJ.out] at hS; obtain ⟨A6, c6, rfl⟩ := St.rowSlice hS; have H6 := Lib.hid hS; clear r6 hb6 hS k0 k1 f0 f1))
        all_goals
          go_wp2_with fail
          go_roundw
          case rel => exact ⟨q + 1, by omega, by go_num, HK.out _ _ _ H6.out⟩
          case measure => simp [intOf]; omega
      · have hqe : q = N := by omega
        have hqi : ¬ (q : Int) < N := by omega
        subst hqe
        have e : crashQ k d q = { d with R := d.R.map (crashB k) } := by unfold crashQ; rw [List.take_of_length_le (by have := HN.out; omega), List.drop_eq_nil_of_le (by have := HN.out; omega), List.append_nil]
        have hd := HS.out.drop
        rw [e] at hd
        obtain ⟨m, E, hE, hd⟩ := aDisk.open_ hd
        have c2 := (dkL.blk hd).cell 2
        have f2 := (dkL.blk hd).frozen 2
        simp at c2
        have HF := Lib.hid (dk_off hd hE true)
        clear hd hE e HS
        go_wp2_with fail
        go_ret
        exact ⟨rfl, HF.out⟩
end
end Go.Proofs.YtnpjfjgnhadmjaaGreatDoor

/- The program's disk: Clone. -/
namespace Go.Proofs.YtnpjfjgnhadmjaaGreatDoor
open Go.RowKit Go.Maps Go.Deep
set_option linter.unusedVariables false

theorem ixF_no {n : List UInt8} {R : List Fl} (h : ∀ f ∈ R, f.nm ≠ n) : ixF n R = none := by
  cases hi : ixF n R with
  | none => rfl
  | some i =>
    obtain ⟨f, h1, h2, _⟩ := ixF_some hi
    exact absurd h2 (h f (List.mem_of_getElem? h1))
/-- the files that came -/
def cameF (left : Lit → Bool) (R : List Fl) : List Fl := R.filter (fun f => !left (.string f.nm))
def cameD (left : Lit → Bool) (d : Dk) : Dk := { d with R := cameF left d.R }
theorem came_start (E : List (Fl × Nat)) : cameF (has (dOf E)) (flsOf E) = [] := by
  unfold cameF
  rw [List.filter_eq_nil_iff]
  intro f hf
  obtain ⟨x, hx, rfl⟩ := List.mem_map.1 hf
  simp [has_mem hx]
theorem came_end {left : Lit → Bool} (h : ∀ kl, left kl = false) (R : List Fl) : cameF left R = R := by
  unfold cameF
  rw [List.filter_eq_self]
  intro f _
  simp [h]
theorem posF_zero {n : List UInt8} : ∀ {R : List Fl}, (∀ f ∈ R, bytesBefore n f.nm = true) → posF n R = 0
  | [], _ => rfl
  | y :: r, h => by
    have h1 := h y (by simp)
    have h2 : bytesBefore y.nm n = false := by
      cases hk : bytesBefore y.nm n with
      | false => rfl
      | true => have := bb_trans _ _ _ h1 hk; rw [bb_irr] at this; cases this
    simp [posF, h2]
theorem came_step {left : Lit → Bool} {x : Fl} (hl : left (.string x.nm) = true) : ∀ {R : List Fl}, R.Pairwise (fun a b => bytesBefore a.nm b.nm = true) → x ∈ R → insF x (cameF left R) = cameF (fun z => left z && !z.sameKey (.string x.nm)) R
  | [], _, h => by cases h
  | y :: r, hs, h => by
    rw [List.pairwise_cons] at hs
    rcases List.mem_cons.1 h with e | h'
    · subst e
      have e1 : cameF (fun z => left z && !z.sameKey (.string x.nm)) r = cameF left r := by
        unfold cameF
        apply List.filter_congr
        intro f hf
        have : (f.nm == x.nm) = false := by
          rw [beq_eq_false_iff_ne]
          intro e
          have := hs.1 f hf
          rw [e, bb_irr] at this; cases this
        simp [same_str, this]
      have e2 : posF x.nm (cameF left r) = 0 := posF_zero fun f hf => hs.1 f ((List.mem_filter.1 hf).1)
      have e3 : cameF left (x :: r) = cameF left r := by simp [cameF, hl]
      have e4 : cameF (fun z => left z && !z.sameKey (.string x.nm)) (x :: r) = x :: cameF (fun z => left z && !z.sameKey (.string x.nm)) r := by simp [cameF, same_str]
      rw [e3, e4, e1]
      unfold insF
      rw [e2]; rfl
    · have hb := hs.1 x h'
      have hne : (y.nm == x.nm) = false := by
        rw [beq_eq_false_iff_ne]
        intro e
        rw [e, bb_irr] at hb; cases hb
      have ih := came_step hl hs.2 h'
      cases hy : left (.string y.nm) with
      | true =>
        have e3 : cameF left (y :: r) = cameF left r := by simp [cameF, hy]
        have e4 : cameF (fun z => left z && !z.sameKey (.string x.nm)) (y :: r) = cameF (fun z => left z && !z.sameKey (.string x.nm)) r := by simp [cameF, same_str, hy, hne]
        rw [e3, e4, ih]
      | false =>
        have e3 : cameF left (y :: r) = y :: cameF left r := by simp [cameF, hy]
        have e4 : cameF (fun z => left z && !z.sameKey (.string x.nm)) (y :: r) = y :: cameF (fun z => left z && !z.sameKey (.string x.nm)) r := by simp [cameF, same_str, hy]
        rw [e3, e4, ← ih]
        unfold insF
        simp [posF, hb]
theorem came_no {left : Lit → Bool} {x : Fl} (hl : left (.string x.nm) = true) (R : List Fl) : ∀ f ∈ cameF left R, f.nm ≠ x.nm := fun f hf e => by
  have := (List.mem_filter.1 hf).2
  rw [e, hl] at this; cases this
theorem used_filter (p : Fl → Bool) : ∀ R : List Fl, usedF (R.filter p) ≤ usedF R
  | [] => Nat.le_refl _
  | x :: r => by
    have ih := used_filter p r
    unfold usedF at ih ⊢
    cases h : p x <;> simp [h] <;> omega
theorem came_ok {d : Dk} (h : d.ok) (left : Lit → Bool) : (cameD left d).ok := by
  refine ⟨h.rise.sublist List.filter_sublist, fun f hf => h.sure f ((List.mem_filter.1 hf).1), ?_, h.room, ?_⟩
  · have := h.used
    have := used_filter (fun f => !left (.string f.nm)) d.R
    show ((usedF (cameF left d.R) : Nat) : Int) ≤ d.room
    unfold cameF; omega
  · have := h.many
    have := List.length_filter_le (fun f => !left (.string f.nm)) d.R
    show (cameF left d.R).length ≤ 64
    unfold cameF; omega
section
variable {W w : World} {p m : Nat} {d : Dk} {E : List (Fl × Nat)} {X : List Asn} {n : List UInt8}
/-- a file is put into a disk's map -/
theorem dk_put {x : Fl × Nat} (h : St W w (aFile x :: aDisk p d :: X)) (hn : x.1.nm.length ≤ maxLen) (hno : ∀ f ∈ d.R, f.nm ≠ x.1.nm) (hok : ({ d with R := insF x.1 d.R } : Dk).ok) {m : Nat} (hm : w.cell? ⟨p, 1, none⟩ = some (.map (some m))) :
    ∃ w', (Instr.mapUpdate 84 (.map (some m)) (.string (bstr x.1.nm)) (.pointer (some ⟨x.2, 0, none⟩))).run Tryz.prog w = .ok () w' ∧ St W w' (aDisk p { d with R := insF x.1 d.R } :: X) := by
  obtain ⟨m2, E, hE, h⟩ := aDisk.open_ h.swap
  have hb := dkL.blk h
  have c1 := hb.cell 1
  simp at c1
  rw [hm] at c1
  injection c1 with c1
  injection c1 with c1
  injection c1 with c1
  subst c1
  have h2 : St W w (aMap Tryz.prog 9 m (dOf E) :: aBlk p 86 #[.int .i64 d.room, .map (some m), .bool d.off] :: aFile x :: (E.map aFile ++ X)) := h.perm (by
    unfold dkL
    simp only [List.cons_append]
    exact (List.Perm.swap _ _ _).trans (List.Perm.cons _ (List.Perm.cons _ List.perm_middle)))
  have hl := (many_E hE).1
  obtain ⟨w', r1, r2, _⟩ := aMap.store h2 ⟨_, rfl, by simp; unfold maxLen; omega⟩ strLaw Tryz.underlying84 (keyN hn) x.2
  refine ⟨w', r1, ?_⟩
  have hs := hE.1.rise
  rw [← hE.2] at hs
  have hi' : ixF x.1.nm (flsOf E) = none := by rw [hE.2]; exact ixF_no hno
  rw [show (dOf E).put (.string x.1.nm) (.lit (.int .i64 (x.2 : Int))) = dOf (insE x E) by
    have := dOf_put hs x.1 x.2
    rw [dropE_none hi'] at this
    exact this] at r2
  refine aDisk.shut (m := m) (E := insE x E) ⟨hok, by rw [insE_fls, hE.2]⟩ (r2.perm ?_)
  unfold dkL
  have h4 := ((insE_perm x E).map aFile).append_right X
  simp only [List.cons_append, List.map_cons] at h4 ⊢
  refine (List.Perm.trans ?_ (List.Perm.cons _ (List.Perm.cons _ h4.symm)))
  exact List.Perm.swap _ _ _
/-- a disk without files -/
theorem aDisk.empty (h : St W w X) (d : Dk) (hok : d.ok) : St W ((w.alloc (.map #[] 0)).alloc (.cells #[.int .i64 d.room, .map (some w.heap.size), .bool d.off] 86)) (aDisk (w.heap.size + 1) { d with R := [] } :: X) := by
  have h1 := aMap.new (P := Tryz.prog) (k := 9) h
  have h2 := aBlk.new h1 86 #[.int .i64 d.room, .map (some w.heap.size), .bool d.off]
  have e : (w.alloc (.map #[] 0)).heap.size = w.heap.size + 1 := by show (w.heap.push _).size = _; simp
  rw [e] at h2
  refine aDisk.shut (m := w.heap.size) (E := []) ⟨⟨List.Pairwise.nil, fun f hf => (by cases hf), ?_, hok.room, (by simp)⟩, rfl⟩ h2
  show ((usedF [] : Nat) : Int) ≤ d.room
  have := hok.room
  simp [usedF]
  omega
end
end Go.Proofs.YtnpjfjgnhadmjaaGreatDoor

/- The program's disk: Clone, the walk. -/
namespace Go.Proofs.YtnpjfjgnhadmjaaGreatDoor
open Go.RowKit Go.Maps Go.Deep
set_option linter.unusedVariables false

section
variable {P : Program} {w w' : World} {ops : Array Oper} {o : Oper} {a : Act} {Q : Exit → Act → World → Prop} {K : Act → World → Prop} {E : Prop}
theorem step_mapUpdate_run (hgd : o.guard = none) (m x v : Operand) (t : TypeId) (hop : o.op = Op.mapUpdate t m x v) {mv kv vv : Value} (hm : a.eval m = mv) (hx : a.eval x = kv) (hv : a.eval v = vv)
    (hrun : (Instr.mapUpdate t mv kv vv).run P w = .ok () w') (h : K (a.put o.dst undef) w') : if Region.wanted o (yielded ops a.tmps) = true then Oper.wp P o a w K Q else E := by
  have hw : Region.wanted o (yielded ops a.tmps) = true := by simp [Region.wanted, hgd]
  rw [if_pos hw]
  unfold Oper.wp
  simp [execOp, hop, hm, hx, hv, hrun, Result.andThen]
  exact h
end
section
variable {W w : World} {p m : Nat} {d : Dk} {E : List (Fl × Nat)} {X : List Asn} {n : List UInt8}
/-- what the clone's walk leaves, seen from its own beginning -/
theorem St.under {L M : List Asn} {w' : World} (h : St W w L) (k : St w w' M) : St W w' (M ++ L) := by
  obtain ⟨hb, h2⟩ := h
  obtain ⟨kb, k2⟩ := k
  refine ⟨hb.trans kb, Sep.join (own := fun b => w.heap.size ≤ b) (fun b hb' => Nat.le_trans hb.size hb') k2 ?_⟩
  exact (h2.ext (Ext.of_B (own := fun _ => False) kb) (fun _ _ _ => id)).mono (fun b _ hb' => ⟨hb'.1, by have := hb'.2; omega⟩)
theorem nm_len (hE : DkE d (m, E)) (h : ∀ f ∈ d.R, f.nm.length ≤ maxLen) {i : Nat} {x : Fl × Nat} (hx : E[i]? = some x) : x.1.nm.length ≤ maxLen := h x.1 (by rw [← hE.2]; exact List.mem_map.2 ⟨x, List.mem_of_getElem? hx, rfl⟩)
set_option maxRecDepth 20000 in
set_option maxHeartbeats 4000000 in
theorem clone_c (h : St W w (aDisk p d :: X)) (hnm : ∀ f ∈ d.R, f.nm.length ≤ maxLen) : Calls Tryz.prog 50 #[.pointer (some ⟨p, 0, none⟩)] w fun e w' => ∃ c, e = .returned (.pointer (some ⟨c, 0, none⟩)) ∧ St W w' (aDisk c d :: aDisk p d :: X) := by
  have H0 := Lib.hid h
  obtain ⟨m, E, hE, h⟩ := aDisk.open_ h
  have hb := dkL.blk h
  have c0 := hb.cell 0
  have c1 := hb.cell 1
  have c2 := hb.cell 2
  simp at c0 c1 c2
  have HN := Lib.hid (none_c hb)
  have hs := hE.1.rise
  rw [← hE.2] at hs
  have HS := Lib.hid hs
  have HE := Lib.hid hE
  obtain ⟨n0, hmap⟩ := aMap.get h.swap
  have HM := Lib.hid hmap
  have HML := Lib.hid hmap.lt
  have HF := Lib.hid (show ∀ (w' : World) (i : Nat) (x : Fl × Nat), B w w' → E[i]? = some x → ∃ A c, w'.cell? ⟨x.2, 0, none⟩ = some (.slice A x.1.b.length c) ∧ w'.cell? ⟨x.2, 1, none⟩ = some (.int .i64 (x.1.sure : Int)) ∧ Bs w (.slice A x.1.b.length c) x.1.b ∧ x.2 < w.heap.size from fun w' i x hb hx => by
    obtain ⟨Y, hY⟩ := rest.pick (L := [_, _]) h hx
    obtain ⟨A, c, k1, k2⟩ := aFile.cells hY
    obtain ⟨A', c', z1, z2⟩ := file_bs hE hx h
    rw [k1] at z1
    injection z1 with z1
    obtain ⟨v, hv, _⟩ := aFile.get hY
    refine ⟨A, c, hb.cell k1, hb.cell k2, by rw [z1]; exact z2, hv.lt⟩)
  have HNM := Lib.hid (fun (i : Nat) (x : Fl × Nat) (hx : E[i]? = some x) => nm_len hE hnm hx)
  have HIN := Lib.hid (fun (i : Nat) (x : Fl × Nat) (hx : E[i]? = some x) => show x.1 ∈ d.R by rw [← hE.2]; exact List.mem_map.2 ⟨x, List.mem_of_getElem? hx, rfl⟩)
  have HA0 := Lib.hid (fun (w' : World) (hw : B w w') => aDisk.empty ((St.nil w).later hw) d hE.1)
  have hmm := @run_makeMap Tryz.prog
  have c00 := (B.alloc' w (.map #[] 0)).cell c0
  have c02 := (B.alloc' w (.map #[] 0)).cell c2
  clear h hE hb hmap hs hnm
  go_enter Tryz.func50, Tryz.ntmps50
  go_wp2_with (first
    | (go_at_call 72; (with_reducible refine HN.out.mono ?_); rintro e w1 ⟨rfl, rfl⟩))
  go_region
  all_goals
    have HI := Lib.hid ((HA0.out w (Below.refl _ _)).later (Below.refl _ _).drew)
    have c11 := HI.out.b.cell c1
    clear HA0 c0 c1 c2 c00 c02 hmm
    generalize ((w.alloc (.map #[] 0)).alloc (.cells #[.int .i64 d.room, .map (some w.heap.size), .bool d.off] 86)).drew = w1 at *
    generalize w.heap.size + 1 = cl at *
    go_wp2_with (first
      | (at_range; refine wpList_range_R rfl (.tmp 22) rfl HM.out rfl HI.out ?_; intro w2 it1 hR hS; have HR1 := Lib.hid hR; have HS1 := Lib.hid hS; clear hR hS))
    go_frame
    generalize w1.heap.size = r at *
    go_loopw [4] (fun s wr => ∃ (left : Lit → Bool) (cnt : Nat) (it : Obj), s = s ∧ Hid (∀ kl, left kl = true → has (dOf E) kl = true) ∧ Hid (Rng w m r E left cnt it) ∧ Hid (St w wr [aObj r it, aDisk cl (cameD left d)])) (fun _ wr => wr.rangeLeft m r)
    case atStart => exact ⟨_, _, it1, rfl, fun kl h => h, HR1.out, by
      have := HS1.out
      have e : cameD (has (dOf E)) d = { d with R := [] } := by unfold cameD; rw [← HE.out.2, came_start]
      rw [e]; exact this⟩
    case round =>
      obtain ⟨left, cnt, it, _, HL, HR, HW⟩ := hrel
      have HLe := Lib.hid (HR.out.left_ HML.out HW.out)
      clear HR1 HS1 HI
      go_wp2_with (first
        | (at_next; refine wpList_next_R rfl (.tmp 23) rfl HS.out HL.out HML.out rfl HR.out HW.out ?_ ?_))
      · intro hl
        have e : cameD left d = d := by unfold cameD; rw [came_end hl]
        have HZ := HW.out.drop
        rw [e] at HZ
        have HZ := Lib.hid (H0.out.under HZ)
        clear e hl
        go_wp2_with fail
        go_ret
        exact ⟨_, rfl, HZ.out⟩
      · intro i y g w2 cnt2 it2 hx hlx hR2 hS2 hlt hen
        have HX := Lib.hid hx
        obtain ⟨A, c, k0, k1, hbs, hgl⟩ := HF.out w2 i (y, g) hS2.b hx
        have E1 := Lib.hid (came_step hlx (by rw [← HE.out.2]; exact HS.out) (HIN.out i _ hx))
        have EN := Lib.hid (came_no hlx d.R)
        have ENM := Lib.hid (HNM.out i _ hx)
        have HR2 := Lib.hid hR2
        have HS2 := Lib.hid hS2
        have HLT := Lib.hid hlt
        have HC := Lib.hid (sclone_c (hbs.later (hS2.b.trans (Below.refl _ _).drew)))
        obtain ⟨m2, E2, hE2, h2⟩ := aDisk.open_ hS2.drop
        have c21 := (dkL.blk h2).cell 1
        simp at c21
        simp only at k0 k1 hen HC E1 EN ENM
        obtain ⟨nm, bs, su⟩ := y
        simp only at k0 k1 hen HC E1 EN ENM
        have e5 : ({ cameD left d with R := insF ⟨nm, bs, su⟩ (cameD left d).R } : Dk) = cameD (fun z => left z && !z.sameKey (.string nm)) d := by unfold cameD; rw [E1.out]
        have HP := Lib.hid (fun (w3 : World) (v3 : Value) (hS : St w w3 (aBy v3 bs :: aObj r it2 :: aDisk cl (cameD left d) :: [])) (hc : w3.cell? ⟨cl, 1, none⟩ = some (.map (some m2))) => show ∃ w4, (Instr.mapUpdate 84 (.map (some m2)) (.string (bstr nm)) (.pointer (some ⟨w3.heap.size, 0, none⟩))).run Tryz.prog (w3.alloc (.cells #[v3, .int .i64 (su : Int)] 113)) = .ok () w4 ∧ St w w4 [aDisk cl (cameD (fun z => left z && !z.sameKey (.string nm)) d), aObj r it2] from by
          have h4 := aFile.shut (x := (⟨nm, bs, su⟩, w3.heap.size)) (aBlk.new hS 113 #[v3, .int .i64 (su : Int)])
          have h5 := dk_put h4.rot3.swap ENM.out EN.out (by rw [e5]; exact came_ok HE.out.1 _) ((B.alloc' w3 (.cells #[v3, .int .i64 (su : Int)] 113)).cell hc)
          rw [e5] at h5
          exact h5)
        clear hx hlx hR2 hS2 hlt hE2 h2 hbs HW HR e5
        go_wp2_with fail
        go_region_law (first
          | (refine step_call rfl 32 #[.tmp 37] #[22] rfl Tryz.call32 HC.out rfl ?_; rintro e w3 ⟨v3, rfl, r3, hb3⟩; obtain ⟨A3, c3, rfl⟩ := own_slice r3; refine ⟨_, rfl, ?_⟩; have H3 := Lib.hid ((HS2.out.later (Below.refl _ _).drew).addRow hb3 r3); have k31 := B.cell (B.trans (Below.refl _ _).drew hb3) k1; have c31 := B.cell (B.trans (Below.refl _ _).drew hb3) c21; have c32 := (B.alloc' w3 (.cells #[.slice A3 bs.length c3, .int .i64 (su : Int)] 113)).cell c31; obtain ⟨w4, hrun, h4⟩ := HP.out _ _ H3.out c31; have H4 := Lib.hid h4; clear h4 r3 hb3)
          | (refine step_mapUpdate_run rfl (.tmp 32) (.tmp 33) (.tmp 44) 84 rfl rfl rfl rfl hrun ?_))
        all_goals
          go_wp2_with fail
          go_roundw
          case rel => exact ⟨_, cnt2, it2, trivial, fun kl hk => HL.out kl (by simp at hk; exact hk.1), HR2.out, H4.out.swap⟩
          case measure => rw [HR2.out.left_ HML.out H4.out.swap, HLe.out]; exact HLT.out
end
end Go.Proofs.YtnpjfjgnhadmjaaGreatDoor

/- The reference's disk as an object; its methods that only read. -/
namespace Go.Proofs.YtnpjfjgnhadmjaaGreatDoor
open Go.RowKit Go.Maps Go.Deep
set_option linter.unusedVariables false

/-- a row of files: name, bytes, how many are synced -/
def cellsF : List Value → List Fl → List Value
  | v :: vs, f :: R => .string (bstr f.nm) :: v :: .int .i64 (f.sure : Int) :: cellsF vs R
  | _, _ => []
theorem cellsF_len : ∀ {vs : List Value} {R : List Fl}, vs.length = R.length → (cellsF vs R).length = R.length * 3
  | [], [], _ => rfl
  | v :: vs, f :: R, h => by
    have := cellsF_len (vs := vs) (R := R) (by simpa using h)
    simp only [cellsF, List.length_cons, this]; omega
  | [], _ :: _, h => by simp at h
  | _ :: _, [], h => by simp at h
theorem cellsF_at : ∀ {vs : List Value} {R : List Fl} {i : Nat} {v : Value} {f : Fl}, vs[i]? = some v → R[i]? = some f →
    (cellsF vs R)[i * 3]? = some (.string (bstr f.nm)) ∧ (cellsF vs R)[i * 3 + 1]? = some v ∧ (cellsF vs R)[i * 3 + 2]? = some (.int .i64 (f.sure : Int))
  | [], _, i, v, f, h, _ => by simp at h
  | _ :: _, [], i, v, f, _, h => by simp at h
  | u :: vs, g :: R, 0, v, f, h, k => by
    simp at h k
    subst h k
    exact ⟨rfl, rfl, rfl⟩
  | u :: vs, g :: R, i + 1, v, f, h, k => by
    have := cellsF_at (vs := vs) (R := R) (i := i) (by simpa using h) (by simpa using k)
    rw [show (i + 1) * 3 = i * 3 + 3 by omega]
    exact this
theorem cellsF_setB : ∀ {vs : List Value} {R : List Fl} (i : Nat) (v : Value), (cellsF vs R).set (i * 3 + 1) v = cellsF (vs.set i v) R
  | [], R, i, v => by simp [cellsF]
  | _ :: _, [], i, v => by cases i <;> simp [cellsF]
  | u :: vs, g :: R, 0, v => rfl
  | u :: vs, g :: R, i + 1, v => by
    have := cellsF_setB (vs := vs) (R := R) i v
    rw [show (i + 1) * 3 + 1 = i * 3 + 1 + 1 + 1 + 1 by omega]
    simp only [cellsF, List.set_cons_succ, this]
theorem cellsF_setS : ∀ {vs : List Value} {R : List Fl} (i : Nat) (f : Fl) (s : Nat), R[i]? = some f → (cellsF vs R).set (i * 3 + 2) (.int .i64 (s : Int)) = cellsF vs (R.set i ⟨f.nm, f.b, s⟩)
  | [], R, i, f, s, _ => by simp [cellsF]
  | _ :: _, [], i, f, s, h => by simp at h
  | u :: vs, g :: R, 0, f, s, h => by simp at h; subst h; rfl
  | u :: vs, g :: R, i + 1, f, s, h => by
    have := cellsF_setS (vs := vs) (R := R) i f s (by simpa using h)
    rw [show (i + 1) * 3 + 2 = i * 3 + 2 + 1 + 1 + 1 by omega]
    simp only [cellsF, List.set_cons_succ, this]
/-- cells see names and what is synced alone -/
theorem cellsF_bytes : ∀ {vs : List Value} {R : List Fl} {i : Nat} {f : Fl} (b : List UInt8), R[i]? = some f → cellsF vs (R.set i ⟨f.nm, b, f.sure⟩) = cellsF vs R
  | [], R, i, f, b, _ => by simp [cellsF]
  | _ :: _, [], i, f, b, h => by simp at h
  | u :: vs, g :: R, 0, f, b, h => by simp at h; subst h; rfl
  | u :: vs, g :: R, i + 1, f, b, h => by
    have := cellsF_bytes (vs := vs) (R := R) (i := i) b (by simpa using h)
    simp only [cellsF, List.set_cons_succ, this]
/-- the i-th file's block -/
def inB (vs : List Value) (R : List Fl) (i g : Nat) : Prop := ∃ f v, R[i]? = some f ∧ vs[i]? = some v ∧ f.b ≠ [] ∧ v.ownBlock = some g
/-- no two files in one block -/
def apart (vs : List Value) (R : List Fl) : Prop := ∀ i j g : Nat, inB vs R i g → inB vs R j g → i = j
theorem apart_of {vs vs' : List Value} {R R' : List Fl} (h : apart vs R) (σ : Nat → Nat) (h1 : ∀ i g, inB vs' R' i g → inB vs R (σ i) g) (h2 : ∀ i j g, inB vs' R' i g → inB vs' R' j g → σ i = σ j → i = j) : apart vs' R' :=
  fun i j g a b => h2 i j g a b (h (σ i) (σ j) g (h1 i g a) (h1 j g b))
theorem inB_set {vs : List Value} {R : List Fl} {i j g : Nat} {v' : Value} {f' : Fl} (h : inB (vs.set i v') (R.set i f') j g) : (j = i ∧ f'.b ≠ [] ∧ v'.ownBlock = some g) ∨ (j ≠ i ∧ inB vs R j g) := by
  obtain ⟨f, v, k1, k2, k3, k4⟩ := h
  rw [List.getElem?_set] at k1 k2
  by_cases e : i = j
  · subst e
    rw [if_pos rfl] at k1 k2
    split at k1
    · split at k2
      · obtain rfl := Option.some.inj k1
        obtain rfl := Option.some.inj k2
        exact .inl ⟨rfl, k3, k4⟩
      · cases k2
    · cases k1
  · rw [if_neg e] at k1 k2
    exact .inr ⟨fun h => e h.symm, f, v, k1, k2, k3, k4⟩
theorem inB_setR {vs : List Value} {R : List Fl} {i j g : Nat} {f f' : Fl} (h : inB vs (R.set i f') j g) (hf : R[i]? = some f) (he : f'.b = f.b) : inB vs R j g := by
  obtain ⟨x, v, k1, k2, k3, k4⟩ := h
  rw [List.getElem?_set] at k1
  by_cases e : i = j
  · subst e
    rw [if_pos rfl] at k1
    split at k1
    · obtain rfl := Option.some.inj k1
      exact ⟨f, v, hf, k2, by rw [← he]; exact k3, k4⟩
    · cases k1
  · rw [if_neg e] at k1
    exact ⟨x, v, k1, k2, k3, k4⟩
/-- the files' bytes -/
def aEls (vs : List Value) (R : List Fl) : Asn where
  at_ own w := (∀ (i : Nat) (f : Fl), R[i]? = some f → ∃ v, vs[i]? = some v ∧ Bs w v f.b ∧ ∀ g, v.ownBlock = some g → f.b ≠ [] → own g) ∧ apart vs R
  ext h hx hd := ⟨fun i f hf => by
    obtain ⟨v, h1, h2, h3⟩ := h.1 i f hf
    exact ⟨v, h1, h2.ext hx (fun g hg hne => hd g (h3 g hg hne)), h3⟩, h.2⟩
  bound h := ⟨fun i f hf => by
    obtain ⟨v, h1, h2, h3⟩ := h.1 i f hf
    exact ⟨v, h1, h2, fun g hg hne => ⟨h3 g hg hne, h2.lt hne hg⟩⟩, h.2⟩
/-- the reference's disk: its parts -/
def rdL (p : Nat) (d : Dk) (x : Value × List Value) : List Asn :=
  [aBlk p 89 #[x.1, .int .i64 d.room, .bool d.off], aRow 147 3 x.1 d.R.length (cellsF x.2 d.R), aEls x.2 d.R]
def RdE (d : Dk) (x : Value × List Value) : Prop := d.ok ∧ x.2.length = d.R.length
def aRdk (p : Nat) (d : Dk) : Asn := aSome (RdE d) (rdL p d)
section
variable {W w : World} {p m : Nat} {d : Dk} {X : List Asn} {n : List UInt8}
theorem aRdk.open_ (h : St W w (aRdk p d :: X)) : ∃ A c vs, d.ok ∧ vs.length = d.R.length ∧
    St W w (aBlk p 89 #[.slice A d.R.length c, .int .i64 d.room, .bool d.off] :: aRow 147 3 (.slice A d.R.length c) d.R.length (cellsF vs d.R) :: aEls vs d.R :: X) := by
  obtain ⟨⟨v, vs⟩, ⟨h1, h2⟩, h3⟩ := h.open_
  have h4 : St W w (aBlk p 89 #[v, .int .i64 d.room, .bool d.off] :: aRow 147 3 v d.R.length (cellsF vs d.R) :: aEls vs d.R :: X) := h3
  obtain ⟨A, c, rfl⟩ := St.rowSlice h4.swap
  exact ⟨A, c, vs, h1, h2, h4⟩
theorem aRdk.shut {v : Value} {vs : List Value} (h1 : d.ok) (h2 : vs.length = d.R.length)
    (h : St W w (aBlk p 89 #[v, .int .i64 d.room, .bool d.off] :: aRow 147 3 v d.R.length (cellsF vs d.R) :: aEls vs d.R :: X)) : St W w (aRdk p d :: X) :=
  St.shut (P := RdE d) (F := rdL p d) (a := (v, vs)) ⟨h1, h2⟩ h
theorem St.row3 {e : TypeId} {g n c : Nat} {xs : List Value} (h : St W w (aRow e 3 (.slice (some ⟨g, 0, none⟩) n c) n xs :: X)) {j : Nat} {x : Value} (hj : xs[j]? = some x) : w.cell? ⟨g, j, none⟩ = some x := by
  obtain ⟨own, hr, _⟩ := h.get
  obtain ⟨hl, A, cap, hv, _, _, hx⟩ := Rd.of_own hr.1
  injection hv with h1 _ _
  have := (hx _ h1.symm).2 j x hj
  rw [addr_at, Nat.zero_add] at this
  exact this
theorem St.row3Some {e : TypeId} {A : Option Addr} {n c : Nat} {xs : List Value} (h : St W w (aRow e 3 (.slice A n c) n xs :: X)) (hn : 0 < n) : ∃ g, A = some ⟨g, 0, none⟩ := by
  obtain ⟨own, hr, _⟩ := h.get
  rcases hr.1.2 with ⟨h1, h2⟩ | ⟨g, cap, cur, h1, _⟩
  · injection h1 with h1 h3 h4; omega
  · injection h1 with h1 h3 h4; exact ⟨g, h1⟩
/-- what the walk reads of the i-th file -/
theorem rd_facts {A : Option Addr} {c : Nat} {vs : List Value} (h2 : vs.length = d.R.length)
    (h : St W w (aBlk p 89 #[.slice A d.R.length c, .int .i64 d.room, .bool d.off] :: aRow 147 3 (.slice A d.R.length c) d.R.length (cellsF vs d.R) :: aEls vs d.R :: X)) {i : Nat} {f : Fl} (hf : d.R[i]? = some f) :
    ∃ g Ab cb, A = some ⟨g, 0, none⟩ ∧ vs[i]? = some (.slice Ab f.b.length cb) ∧ Bs w (.slice Ab f.b.length cb) f.b ∧ w.cell? ⟨g, i * 3, none⟩ = some (.string (bstr f.nm)) ∧ w.cell? ⟨g, i * 3 + 1, none⟩ = some (.slice Ab f.b.length cb) ∧ w.cell? ⟨g, i * 3 + 2, none⟩ = some (.int .i64 (f.sure : Int)) := by
  have hi : i < d.R.length := by
    rcases Nat.lt_or_ge i d.R.length with h' | h'
    · exact h'
    · rw [List.getElem?_eq_none h'] at hf; cases hf
  obtain ⟨own, he, _⟩ := (h.rot3).get
  obtain ⟨v, k1, k2, _⟩ := he.1 i f hf
  obtain ⟨Ab, cb, rfl⟩ := k2.rd.slice
  obtain ⟨g, rfl⟩ := St.row3Some h.swap (by omega)
  obtain ⟨c0, c1, c2⟩ := cellsF_at k1 hf
  exact ⟨g, Ab, cb, rfl, k1, k2, St.row3 h.swap c0, St.row3 h.swap c1, St.row3 h.swap c2⟩
theorem bstr_beq (a b : List UInt8) : (bstr a == bstr b) = (a == b) := by rw [beq_toListBytes, bstr_toList, bstr_toList]
def ixI (n : List UInt8) (R : List Fl) : Int := match ixF n R with | some i => (i : Int) | none => -1
theorem ixF_of {R : List Fl} {i : Nat} {f : Fl} (h1 : R[i]? = some f) (h2 : f.nm = n) (h3 : ∀ j, j < i → ∀ g, R[j]? = some g → g.nm ≠ n) : ixF n R = some i := by
  cases hx : ixF n R with
  | none => exact absurd h2 (ixF_none hx f (List.mem_of_getElem? h1))
  | some k =>
    obtain ⟨g, k1, k2, k3⟩ := ixF_some hx
    rcases Nat.lt_trichotomy i k with hk | hk | hk
    · exact absurd h2 (k3 i hk f h1)
    · rw [hk]
    · exact absurd k2 (h3 k hk g k1)
set_option maxRecDepth 20000 in
set_option maxHeartbeats 2000000 in
theorem rat_c (h : St W w (aRdk p d :: X)) : Calls Tryz.prog 115 #[.pointer (some ⟨p, 0, none⟩), .string (bstr n)] w fun e w' => e = .returned (.int .i64 (ixI n d.R)) ∧ w = w' := by
  obtain ⟨A, c, vs, h1, h2, h3⟩ := aRdk.open_ h
  have c0 := (aBlk.get h3).cell 0
  simp at c0
  have HF := Lib.hid (fun (i : Nat) (f : Fl) (hf : d.R[i]? = some f) => rd_facts h2 h3 hf)
  obtain ⟨N, hN⟩ : ∃ N, d.R.length = N := ⟨_, rfl⟩
  have HN := Lib.hid hN
  have hNl : (N : Int) ≤ 64 := by have := h1.many; omega
  rw [hN] at c0
  have c0 : w.cell? ⟨p, 0, none⟩ = some (.slice A N c) := c0
  clear h h1 h2 h3 hN
  go_enter Tryz.func115, Tryz.ntmps115
  go_wp2_with fail
  go_loop [5] (fun i => ∃ q : Nat, q ≤ N ∧ i = .int .i64 q ∧ Hid (∀ j, j < q → ∀ g, d.R[j]? = some g → g.nm ≠ n)) (fun i => N - (intOf i).toNat)
  case atStart => exact ⟨0, Nat.zero_le _, rfl, fun j hj => by omega⟩
  case round =>
    obtain ⟨q, hq, rfl, HP⟩ := hrel
    by_cases hlt : q < N
    · have hqi : (q : Int) < N := by omega
      obtain ⟨f, hf⟩ : ∃ f, d.R[q]? = some f := ⟨_, List.getElem?_eq_getElem (by have := HN.out; omega)⟩
      obtain ⟨g, Ab, cb, rfl, _, _, k0, _, _⟩ := HF.out q f hf
      have HFF := Lib.hid hf
      by_cases e1 : f.nm = n
      · have g0 : (bstr f.nm == bstr n) = true := by rw [bstr_beq]; simpa using e1
        have g2 : ((bstr f.nm).toList == (bstr n).toList) = true := by rw [bstr_toList, bstr_toList]; simpa using e1
        have E := Lib.hid (show (q : Int) = ixI n d.R by unfold ixI; rw [ixF_of hf e1 HP.out])
        clear hf e1
        go_wp2_with fail
        go_ret
        exact ⟨retI E.out, rfl⟩
      · have g0 : (bstr f.nm == bstr n) = false := by rw [bstr_beq]; simpa using e1
        have g2 : ((bstr f.nm).toList == (bstr n).toList) = false := by rw [bstr_toList, bstr_toList]; simpa using e1
        have E := Lib.hid e1
        clear hf e1
        go_wp2_with fail
        go_round
        case rel => exact ⟨q + 1, by omega, by go_num, fun j hj x hx => by
          by_cases e : j = q
          · subst e; rw [HFF.out] at hx; rw [← Option.some.inj hx]; exact E.out
          · exact HP.out j (by omega) x hx⟩
        case measure => simp [intOf]; omega
    · have hqi : ¬ (q : Int) < N := by omega
      have E := Lib.hid (show (-1 : Int) = ixI n d.R by
        unfold ixI
        cases hx : ixF n d.R with
        | none => rfl
        | some k =>
          obtain ⟨x, k1, k2, _⟩ := ixF_some hx
          have : k < d.R.length := by
            rcases Nat.lt_or_ge k d.R.length with h' | h'
            · exact h'
            · rw [List.getElem?_eq_none h'] at k1; cases k1
          exact absurd k2 (HP.out k (by have := HN.out; omega) x k1))
      go_wp2_with fail
      go_ret
      exact ⟨retI E.out, rfl⟩
def mayI (d : Dk) (n : List UInt8) : Int := match (mayF d n).1 with | some i => (i : Int) | none => 0
set_option maxRecDepth 20000 in
theorem rmay_c (h : St W w (aRdk p d :: X)) : Calls Tryz.prog 104 #[.pointer (some ⟨p, 0, none⟩), .string (bstr n)] w fun e w' => e = .returned (.tuple #[.int .i64 (mayI d n), .int .i64 (mayF d n).2]) ∧ w = w' := by
  have HA := Lib.hid (rat_c (n := n) h)
  obtain ⟨A, c, vs, h1, h2, h3⟩ := aRdk.open_ h
  have c2 := (aBlk.get h3).cell 2
  simp at c2
  cases ho : d.off with
  | true =>
    have e1 : mayI d n = 0 := by unfold mayI mayF; rw [if_pos ho]
    have e2 : (mayF d n).2 = 32 := by unfold mayF; rw [if_pos ho]
    rw [e1, e2]
    rw [ho] at c2
    clear h h1 h2 h3 ho e1 e2
    go_enter Tryz.func104, Tryz.ntmps104
    go_wp2
    go_ret2
    exact ⟨rfl, rfl⟩
  | false =>
    rw [ho] at c2
    cases hi : ixF n d.R with
    | none =>
      have e1 : mayI d n = 0 := by unfold mayI mayF; rw [if_neg (by rw [ho]; simp), hi]
      have e2 : (mayF d n).2 = 4 := by unfold mayF; rw [if_neg (by rw [ho]; simp), hi]
      have e3 : ixI n d.R = -1 := by unfold ixI; rw [hi]
      rw [e1, e2]
      rw [e3] at HA
      clear h h1 h2 h3 ho e1 e2 e3 hi
      go_enter Tryz.func104, Tryz.ntmps104
      go_wp2_with (first | (go_at_call 115; (with_reducible refine HA.out.mono ?_); rintro e w1 ⟨rfl, rfl⟩))
      go_ret2
      exact ⟨rfl, rfl⟩
    | some i =>
      have e1 : mayI d n = (i : Int) := by unfold mayI mayF; rw [if_neg (by rw [ho]; simp), hi]
      have e2 : (mayF d n).2 = 0 := by unfold mayF; rw [if_neg (by rw [ho]; simp), hi]
      have e3 : ixI n d.R = (i : Int) := by unfold ixI; rw [hi]
      rw [e1, e2]
      rw [e3] at HA
      clear h h1 h2 h3 ho e1 e2 e3 hi
      go_enter Tryz.func104, Tryz.ntmps104
      go_wp2_with (first | (go_at_call 115; (with_reducible refine HA.out.mono ?_); rintro e w1 ⟨rfl, rfl⟩))
      go_ret2
      exact ⟨rfl, rfl⟩
theorem rmay_no {er : Int} (h : St W w (aRdk p d :: X)) (hm : mayF d n = (none, er)) : Calls Tryz.prog 104 #[.pointer (some ⟨p, 0, none⟩), .string (bstr n)] w fun e w' => e = .returned (.tuple #[.int .i64 0, .int .i64 er]) ∧ w = w' := by
  have := rmay_c (n := n) h
  rw [show mayI d n = 0 by unfold mayI; rw [hm], show (mayF d n).2 = er by rw [hm]] at this
  exact this
theorem rmay_yes {i : Nat} {er : Int} (h : St W w (aRdk p d :: X)) (hm : mayF d n = (some i, er)) : Calls Tryz.prog 104 #[.pointer (some ⟨p, 0, none⟩), .string (bstr n)] w fun e w' => e = .returned (.tuple #[.int .i64 (i : Int), .int .i64 0]) ∧ w = w' := by
  have := rmay_c (n := n) h
  rw [show mayI d n = (i : Int) by unfold mayI; rw [hm], show (mayF d n).2 = 0 by rw [hm]; exact (may_some hm).1] at this
  exact this
set_option maxRecDepth 20000 in
set_option maxHeartbeats 2000000 in
theorem rused_c (h : St W w (aRdk p d :: X)) : Calls Tryz.prog 130 #[.pointer (some ⟨p, 0, none⟩)] w fun e w' => e = .returned (.int .i64 (usedF d.R : Int)) ∧ w = w' := by
  obtain ⟨A, c, vs, h1, h2, h3⟩ := aRdk.open_ h
  have c0 := (aBlk.get h3).cell 0
  simp at c0
  have HF := Lib.hid (fun (i : Nat) (f : Fl) (hf : d.R[i]? = some f) => rd_facts h2 h3 hf)
  obtain ⟨N, hN⟩ : ∃ N, d.R.length = N := ⟨_, rfl⟩
  have HN := Lib.hid hN
  have hNl : (N : Int) ≤ 64 := by have := h1.many; omega
  rw [hN] at c0
  have hu : usedF d.R ≤ 4194304 := by have := h1.used; have := h1.room; omega
  have htk : ∀ q, usedF (d.R.take q) ≤ usedF d.R := fun q => by
    have : usedF d.R = usedF (d.R.take q) + usedF (d.R.drop q) := by
      unfold usedF
      conv => lhs; rw [← List.take_append_drop q d.R]
      rw [List.map_append, List.sum_append]
    omega
  have HU := Lib.hid (show ∀ q, usedF (d.R.take q) ≤ 4194304 from fun q => Nat.le_trans (htk q) hu)
  clear h h1 h2 h3 hN hu htk
  go_enter Tryz.func130, Tryz.ntmps130
  go_wp2_with fail
  go_loop [3, 4] (fun s i => ∃ q : Nat, q ≤ N ∧ i = .int .i64 q ∧ s = .int .i64 (usedF (d.R.take q) : Int)) (fun _ i => N - (intOf i).toNat)
  case atStart => exact ⟨0, Nat.zero_le _, rfl, rfl⟩
  case round =>
    obtain ⟨q, hq, rfl, rfl⟩ := hrel
    by_cases hlt : q < N
    · have hqi : (q : Int) < N := by omega
      have hql : q < d.R.length := by have := HN.out; omega
      obtain ⟨f, hf⟩ : ∃ f, d.R[q]? = some f := ⟨_, List.getElem?_eq_getElem hql⟩
      obtain ⟨g, Ab, cb, rfl, _, _, _, k1, _⟩ := HF.out q f hf
      have E := Lib.hid (show usedF (d.R.take (q + 1)) = usedF (d.R.take q) + f.b.length by
        have he : d.R[q] = f := by rw [List.getElem?_eq_getElem hql] at hf; exact Option.some.inj hf
        rw [List.take_succ_eq_append_getElem hql, he]
        unfold usedF
        rw [List.map_append, List.sum_append]; simp)
      have hu1 := HU.out (q + 1)
      rw [E.out] at hu1
      generalize usedF (d.R.take q) = s0 at *
      have hs1 : (s0 : Int) + (f.b.length : Int) ≤ 4194304 := by omega
      clear hf hql hu1
      go_wp2_with fail
      go_round
      case rel => exact ⟨q + 1, by omega, by go_num, by rw [E.out]; go_num⟩
      case measure => simp [intOf]; omega
    · have hqi : ¬ (q : Int) < N := by omega
      have E := Lib.hid (show usedF (d.R.take q) = usedF d.R by rw [List.take_of_length_le (by have := HN.out; omega)])
      go_wp2_with fail
      go_ret
      exact ⟨retI (by rw [E.out]), rfl⟩
end
end Go.Proofs.YtnpjfjgnhadmjaaGreatDoor

/- The reference's disk: Synced, Get, Sync, Restart, New, List. -/
namespace Go.Proofs.YtnpjfjgnhadmjaaGreatDoor
open Go.RowKit Go.Maps Go.Deep
set_option linter.unusedVariables false

section
variable {W w : World} {p m : Nat} {d : Dk} {X : List Asn} {n : List UInt8}
theorem rd_ne {A : Option Addr} {c g : Nat} {vs : List Value} (h : St W w (aBlk p 89 #[.slice A d.R.length c, .int .i64 d.room, .bool d.off] :: aRow 147 3 (.slice A d.R.length c) d.R.length (cellsF vs d.R) :: aEls vs d.R :: X)) (hA : A = some ⟨g, 0, none⟩) : p ≠ g := by
  obtain ⟨own, h1, _⟩ := h.swap.get
  have := row_ne h1.1 (aBlk.get h) (by decide)
  rw [hA] at this
  intro e
  exact this (by rw [e]; rfl)
theorem St.rowFree {e : TypeId} {sz n g c : Nat} {xs : List Value} (h : St W w (aRow e sz (.slice (some ⟨g, 0, none⟩) n c) n xs :: X)) (j : Nat) : w.frozen? ⟨g, j, none⟩ = false := by
  obtain ⟨own, hr, _⟩ := h.get
  exact hr.1.frozenAt j
/-- a cell of a row stored -/
theorem St.rowSet {e : TypeId} {sz n g c : Nat} {xs : List Value} (h : St W w (aRow e sz (.slice (some ⟨g, 0, none⟩) n c) n xs :: X)) {j : Nat} (hj : j < n * sz) (u : Value) : St W (w.setCell ⟨g, j, none⟩ u) (aRow e sz (.slice (some ⟨g, 0, none⟩) n c) n (xs.set j u) :: X) := by
  obtain ⟨own, hr, ho, hback⟩ := h.focus
  refine hback _ (aRow e sz (.slice (some ⟨g, 0, none⟩) n c) n (xs.set j u)) ((Ext.refl own w).set (p := ⟨g, j, none⟩) (fun _ => hr.2 g rfl) u) ⟨?_, fun x hx => .inl (hr.2 x hx)⟩
  refine ⟨by rw [List.length_set]; exact hr.1.1, ?_⟩
  rcases hr.1.2 with ⟨h1, h2⟩ | ⟨g', cap, cur, h1, hg, hh, hc, hm, hs, ht⟩
  · injection h1 with h1 h3 h4; cases h1
  · have e1 : g' = g ∧ cap = c := by injection h1 with h1 h3 h4; injection h1 with h1; injection h1 with h1; exact ⟨h1.symm, h4.symm⟩
    obtain ⟨rfl, rfl⟩ := e1
    refine .inr ⟨g', cap, cur.setIfInBounds j u, rfl, hg, ?_, hc, hm, by simpa using hs, ?_⟩
    · exact Blk.set_ (t := e) (show Blk w g' e cur from hh) j u
    · rw [← ht]
      rw [Array.toList_setIfInBounds, List.take_set]
theorem rget_c (h : St W w (aRdk p d :: X)) : Calls Tryz.prog 63 #[.pointer (some ⟨p, 0, none⟩), .string (bstr n)] w fun e w' => ∃ v, e = .returned (.tuple #[v, .int .i64 (getF d n).2]) ∧ St W w' (aBy v (getF d n).1 :: aRdk p d :: X) := by
  have H0 := Lib.hid h
  obtain ⟨A, c, vs, h1, h2, h3⟩ := aRdk.open_ h
  cases hm : mayF d n with
  | mk o er =>
  cases o with
  | none =>
    have hf : getF d n = ([], er) := by unfold getF; rw [hm]
    have HF := Lib.hid (rmay_no h hm)
    have q1 : (er != 0) = true := by simpa using may_none hm
    rw [hf]
    clear h h1 h2 h3 hm hf
    go_enter Tryz.func63, Tryz.ntmps63
    go_wp2_with (first | (go_at_call 104; (with_reducible refine HF.out.mono ?_); rintro e w1 ⟨rfl, rfl⟩))
    go_ret2
    exact ⟨_, rfl, aBy.nil H0.out⟩
  | some i =>
    obtain ⟨_, _, f, hd, _⟩ := may_some hm
    have hf : getF d n = (f.b, 0) := by unfold getF; rw [hm]; simp only; rw [hd]; rfl
    have HF := Lib.hid (rmay_yes h hm)
    have c0 := (aBlk.get h3).cell 0
    simp at c0
    obtain ⟨g, Ab, cb, rfl, _, hbs, _, k1, _⟩ := rd_facts h2 h3 hd
    have hil : (i : Int) < (d.R.length : Int) := by
      have : i < d.R.length := by
        rcases Nat.lt_or_ge i d.R.length with h' | h'
        · exact h'
        · rw [List.getElem?_eq_none h'] at hd; cases hd
      omega
    have KR := Lib.hid hbs.rd
    have o1 := cellsB_one f.b
    have hbl := hbs.len
    have g1 : 0 + f.b.length ≤ maxLen := by unfold big at hbl; unfold maxLen; omega
    have g2 : (0 + f.b.length) * 1 ≤ 140737488355328 := by unfold big at hbl; omega
    rw [hf]
    generalize d.R.length = N at *
    clear h h1 h2 h3 hm hf hd hbs hbl
    go_enter Tryz.func63, Tryz.ntmps63
    go_wp2_with (first
      | (go_at_call 104; (with_reducible refine HF.out.mono ?_); rintro e w1 ⟨rfl, rfl⟩)
      | (at_builtin; refine wpList_append_St rfl (.tmp 18) (.tmp 26) 22 rfl Tryz.underlying22 info5 rfl Nat.zero_lt_one rfl rfl (aBy.nil H0.out) KR.out o1 g1 g2 ?_; intro A3 c3 w3 hS; have H3 := Lib.hid hS; clear hS))
    go_ret2
    refine ⟨_, rfl, ?_⟩
    have := H3.out
    rw [List.length_nil, Nat.zero_add, show cellsB [] ++ cellsB f.b = cellsB f.b by simp [cellsB]] at this
    exact this
theorem rd_put {A : Option Addr} {c : Nat} {vs : List Value} {i : Nat} {f : Fl} {g : Nat} (h1 : d.ok) (h2 : vs.length = d.R.length)
    (h : St W w (aBlk p 89 #[.slice A d.R.length c, .int .i64 d.room, .bool d.off] :: aRow 147 3 (.slice A d.R.length c) d.R.length (cellsF vs d.R) :: aEls vs d.R :: X)) (hf : d.R[i]? = some f) (hA : A = some ⟨g, 0, none⟩) (s : Nat)
    (hok : ({ d with R := d.R.set i ⟨f.nm, f.b, s⟩ } : Dk).ok) : St W (w.setCell ⟨g, i * 3 + 2, none⟩ (.int .i64 (s : Int))) (aRdk p { d with R := d.R.set i ⟨f.nm, f.b, s⟩ } :: X) := by
  have hi : i < d.R.length := by
    rcases Nat.lt_or_ge i d.R.length with h' | h'
    · exact h'
    · rw [List.getElem?_eq_none h'] at hf; cases hf
  subst hA
  have h4 := St.rowSet h.swap (j := i * 3 + 2) (by omega) (.int .i64 (s : Int))
  rw [cellsF_setS i f s hf] at h4
  have h5 := h4.swap
  have e1 : d.R.length = ({ d with R := d.R.set i ⟨f.nm, f.b, s⟩ } : Dk).R.length := by simp
  refine aRdk.shut (v := .slice (some ⟨g, 0, none⟩) d.R.length c) (vs := vs) hok (by rw [← e1]; exact h2) ?_
  rw [← e1]
  refine (St.conv (A := aEls vs d.R) (C := aEls vs (d.R.set i ⟨f.nm, f.b, s⟩)) h5.rot3 (fun own hA => ⟨fun j x hx => ?_, apart_of hA.2 id (fun j g' hj => inB_setR hj hf rfl) (fun _ _ _ _ _ e => e)⟩)).rot3.rot3
  rw [List.getElem?_set] at hx
  split at hx
  · rename_i e
    subst e
    have := Option.some.inj hx
    subst this
    exact hA.1 i f hf
  · exact hA.1 j x hx
set_option maxRecDepth 20000 in
theorem rsync_c (h : St W w (aRdk p d :: X)) : Calls Tryz.prog 97 #[.pointer (some ⟨p, 0, none⟩), .string (bstr n)] w fun e w' => e = .returned (.int .i64 (syncF d n).1) ∧ St W w' (aRdk p (syncF d n).2 :: X) := by
  have H0 := Lib.hid h
  obtain ⟨A, c, vs, h1, h2, h3⟩ := aRdk.open_ h
  cases hm : mayF d n with
  | mk o er =>
  cases o with
  | none =>
    have hf : syncF d n = (er, d) := turn_none hm
    have HF := Lib.hid (rmay_no h hm)
    have q1 : (er == 0) = false := by simpa using may_none hm
    rw [hf]
    clear h h1 h2 h3 hm hf
    go_enter Tryz.func97, Tryz.ntmps97
    go_wp2_with (first | (go_at_call 104; (with_reducible refine HF.out.mono ?_); rintro e w1 ⟨rfl, rfl⟩))
    go_ret
    exact ⟨rfl, H0.out⟩
  | some i =>
    obtain ⟨_, _, f, hd, _⟩ := may_some hm
    have hf : syncF d n = (0, { d with R := d.R.set i ⟨f.nm, f.b, f.b.length⟩ }) := turn_some hm hd
    have hok := sync_ok h1 n
    rw [hf] at hok ⊢
    have HF := Lib.hid (rmay_yes h hm)
    have c0 := (aBlk.get h3).cell 0
    simp at c0
    obtain ⟨g, Ab, cb, hA, _, hbs, _, k1, k2⟩ := rd_facts h2 h3 hd
    have hpg := rd_ne h3 hA
    have f2 : w.frozen? ⟨g, i * 3 + 2, none⟩ = false := by subst hA; exact St.rowFree h3.swap _
    have HP := Lib.hid (fun (w' : World) (hw : B w w') => rd_put h1 h2 (h3.later hw) hd hA f.b.length hok)
    have hil : (i : Int) < (d.R.length : Int) := by
      have : i < d.R.length := by
        rcases Nat.lt_or_ge i d.R.length with h' | h'
        · exact h'
        · rw [List.getElem?_eq_none h'] at hd; cases hd
      omega
    subst hA
    generalize d.R.length = N at *
    clear h h1 h2 h3 hm hf hd hbs hok
    go_enter Tryz.func97, Tryz.ntmps97
    go_wp2_with (first | (go_at_call 104; (with_reducible refine HF.out.mono ?_); rintro e w1 ⟨rfl, rfl⟩))
    go_region
    all_goals
      go_wp2
      go_ret
      exact ⟨rfl, HP.out _ (Below.refl _ _).drew⟩
end
end Go.Proofs.YtnpjfjgnhadmjaaGreatDoor

/- The reference's disk: Restart, New, List. -/
namespace Go.Proofs.YtnpjfjgnhadmjaaGreatDoor
open Go.RowKit Go.Maps Go.Deep
set_option linter.unusedVariables false

theorem infoS : (Tryz.prog.info? 9).map (fun i => (i.zero, i.size, i.bytes)) = some (some (.string ⟨#[]⟩), 1, 16) := by kernel_rfl
section
variable {W w : World} {p m : Nat} {d : Dk} {X : List Asn} {n : List UInt8}
/-- a row made of nothing -/
theorem St.rowNil (h : St W w X) (e : TypeId) (sz : Nat) : St W w (aRow e sz (.slice none 0 0) 0 [] :: X) :=
  h.add (own := fun _ => False) (Below.refl _ _) ⟨ownNil w _ _ _, fun x hx => by cases hx⟩ (fun x hx => hx.elim)
theorem rd_off (b : Bool) (h : St W w (aRdk p d :: X)) : St W (w.setCell ⟨p, 2, none⟩ (.bool b)) (aRdk p { d with off := b } :: X) := by
  obtain ⟨A, c, vs, h1, h2, h3⟩ := aRdk.open_ h
  have h4 := aBlk.set h3 2 (.bool b)
  exact aRdk.shut (v := .slice A d.R.length c) (vs := vs) (d := { d with off := b }) ⟨h1.rise, h1.sure, h1.used, h1.room, h1.many⟩ h2 h4
theorem rnew_no {k : Int} (h : St W w X) (hk : k < 0 ∨ 4194304 < k) : Calls Tryz.prog 17 #[.int .i64 k] w fun e w' => e = .returned (.tuple #[.pointer none, .int .i64 1]) ∧ St W w' X := by
  have H0 := Lib.hid h
  by_cases h1 : k < 0
  · clear h hk
    go_enter Tryz.func17, Tryz.ntmps17
    go_wp2
    go_ret2
    exact ⟨rfl, H0.out⟩
  · have h2 : 4194304 < k := by omega
    clear h hk
    go_enter Tryz.func17, Tryz.ntmps17
    go_wp2
    go_ret2
    exact ⟨rfl, H0.out⟩
theorem aEls.nil (h : St W w X) : St W w (aEls [] [] :: X) :=
  h.add (own := fun _ => False) (Below.refl _ _) ⟨fun i f hf => by simp at hf, fun i j g ⟨f, v, k, _⟩ => by simp at k⟩ (fun x hx => hx.elim)
theorem rnew_yes {k : Int} (h : St W w X) (hk : ¬ (k < 0 ∨ 4194304 < k)) : Calls Tryz.prog 17 #[.int .i64 k] w fun e w' => ∃ p, e = .returned (.tuple #[.pointer (some ⟨p, 0, none⟩), .int .i64 0]) ∧ St W w' (aRdk p ⟨[], k, false⟩ :: X) := by
  have h1 : ¬ k < 0 := by omega
  have h2 : ¬ 4194304 < k := by omega
  have HS := Lib.hid (show St W (w.alloc (.cells #[.slice none 0 0, .int .i64 k, .bool false] 89)) (aRdk w.heap.size ⟨[], k, false⟩ :: X) from by
    have h3 := aBlk.new ((aEls.nil h).rowNil 147 3) 89 #[.slice none 0 0, .int .i64 k, .bool false]
    exact aRdk.shut (v := .slice none 0 0) (vs := []) ⟨List.Pairwise.nil, fun f hf => (by cases hf), by simp [usedF]; omega, ⟨by simp only; omega, by simp only; omega⟩, by simp⟩ rfl h3)
  clear h hk
  go_enter Tryz.func17, Tryz.ntmps17
  go_wp2
  go_ret2
  exact ⟨_, rfl, HS.out⟩
set_option maxRecDepth 20000 in
set_option maxHeartbeats 2000000 in
theorem rlist_c (h : St W w (aRdk p d :: X)) : Calls Tryz.prog 62 #[.pointer (some ⟨p, 0, none⟩)] w fun e w' => ∃ v, e = .returned v ∧ St W w' (aStr v (d.R.map Fl.nm) :: aRdk p d :: X) := by
  have H0 := Lib.hid h
  have hmany : d.R.length ≤ 64 := by obtain ⟨_, _, _, h1, _⟩ := aRdk.open_ h; exact h1.many
  obtain ⟨N, hN⟩ : ∃ N, d.R.length = N := ⟨_, rfl⟩
  rw [hN] at hmany
  have HN := Lib.hid hN
  clear h hN
  go_enter Tryz.func62, Tryz.ntmps62
  go_wp2_with fail
  go_loopw [3, 4] (fun v i wr => ∃ (q : Nat) (A : Option Addr) (c : Nat), q ≤ N ∧ i = .int .i64 q ∧ v = .slice A q c ∧ Hid (St W wr (aRow 9 1 (.slice A q c) q (((d.R.take q).map Fl.nm).map fun n => .string (bstr n)) :: aRdk p d :: X))) (fun _ i _ => N - (intOf i).toNat)
  case atStart => exact ⟨0, none, 0, Nat.zero_le _, rfl, rfl, H0.out.rowNil _ _⟩
  case round =>
    obtain ⟨q, A, c, hq, rfl, rfl, HS⟩ := hrel
    clear H0
    obtain ⟨A2, c2, vs, k1, k2, k3⟩ := aRdk.open_ HS.out.swap
    have c0 := (aBlk.get k3).cell 0
    simp at c0
    rw [HN.out] at c0
    by_cases hlt : q < N
    · have hqi : (q : Int) < N := by omega
      obtain ⟨f, hf⟩ : ∃ f, d.R[q]? = some f := ⟨_, List.getElem?_eq_getElem (by have := HN.out; omega)⟩
      obtain ⟨g, Ab, cb, rfl, _, _, c1, _, _⟩ := rd_facts k2 k3 hf
      have E := Lib.hid (show ((d.R.take q).map Fl.nm).map (fun n => Value.string (bstr n)) ++ [Value.string (bstr f.nm)] = ((d.R.take (q + 1)).map Fl.nm).map (fun n => Value.string (bstr n)) by
        have hql : q < d.R.length := by have := HN.out; omega
        have he : d.R[q] = f := by rw [List.getElem?_eq_getElem hql] at hf; exact Option.some.inj hf
        rw [List.take_succ_eq_append_getElem hql, he]; simp)
      have o1 : ∀ x ∈ [Value.string (bstr f.nm)], x.oneCell' = true := by simp [Value.oneCell']
      have g1 : q + 1 ≤ maxLen := by unfold maxLen; omega
      have g2 : (q + 1) * 16 ≤ 140737488355328 := by omega
      clear k1 k2 k3 hf
      go_wp2_with (first
        | (at_builtin; refine wpList_append_St rfl (.tmp 14) (.tmp 23) 102 rfl Tryz.underlying102 infoS rfl Nat.zero_lt_one rfl rfl (HS.out.later (B.alloc' _ _)) (Rd.one _ _ _) o1 g1 g2 ?_; intro A3 c3 w3 hS; have H3 := Lib.hid hS; clear hS))
      go_roundw
      case rel => exact ⟨q + 1, A3, c3, by omega, by go_num, rfl, by have := H3.out; rw [E.out] at this; exact this⟩
      case measure => simp [intOf]; omega
    · have hqe : q = N := by omega
      have hqi : ¬ (q : Int) < N := by omega
      subst hqe
      clear k1 k2 k3
      go_wp2_with fail
      go_ret
      refine ⟨_, rfl, ?_⟩
      have := HS.out
      rw [List.take_of_length_le (by have := HN.out; omega)] at this
      unfold aStr
      rw [List.length_map, HN.out]
      exact this
end
end Go.Proofs.YtnpjfjgnhadmjaaGreatDoor

/- The reference's disk: a file's bytes replaced; Truncate. -/
namespace Go.Proofs.YtnpjfjgnhadmjaaGreatDoor
open Go.RowKit Go.Maps Go.Deep
set_option linter.unusedVariables false

section
variable {W w : World} {p m : Nat} {d : Dk} {X L : List Asn} {n : List UInt8} {A C D : Asn}
/-- two objects as one -/
theorem St.join (h : St W w (A :: C :: L)) (hc : ∀ o o', A.at_ o w → C.at_ o' w → (∀ b, o' b → ¬ o b) → D.at_ (fun x => o x ∨ o' x) w) : St W w (D :: L) := by
  obtain ⟨hb, o, h1, h2, o', h3, h4, h5⟩ := h
  exact ⟨hb, _, fun b hb => hb.elim (fun e => h1 b e) (fun e => ⟨(h3 b e).1.1, (h3 b e).2⟩), hc o o' h2 h4 (fun b hb => (h3 b hb).1.2), h5.mono (fun b _ hb => ⟨hb.1.1, fun e => e.elim hb.1.2 hb.2⟩)⟩
/-- 'v[:k:k]' -/
theorem Bs.cutCap {A : Option Addr} {n c : Nat} {bs : List UInt8} (h : Bs w (.slice A n c) bs) (k : Nat) (hk : k ≤ bs.length) : (∀ w' : World, (Instr.slice 22 (.slice A n c) none (some (.int .i64 (k : Int))) (some (.int .i64 (k : Int)))).run Tryz.prog w' = .ok (.slice A k k) w') ∧ (∀ w' : World, (Instr.sliceAt 22 (.slice A n c) none (some (.int .i64 (k : Int))) (some (.int .i64 (k : Int)))).run Tryz.prog w' = .ok (.slice A k k) w') ∧
    Bs w (.slice A k k) (bs.take k) := by
  obtain ⟨⟨A', cap, he, hn, hc, hm, hr⟩, hl⟩ := h
  injection he with e1 e2 e3
  subst e1 e2 e3
  have hs : ∀ w' : World, (Instr.slice 22 (.slice A bs.length c) none (some (.int .i64 (k : Int))) (some (.int .i64 (k : Int)))).run Tryz.prog w' = .ok (.slice A k k) w' := fun w' => by
    rw [run_slice_hm (P := Tryz.prog) (w := w') (t := 22) (a := A) (len := bs.length) (cap := c) (by rw [elem47]; exact Tryz.underlying22) .i64 .i64 (k : Int) (k : Int) (by omega) (by omega) (by omega), elem47, size5]
    simp [Result.andThen, sliced, Addr.add]
  refine ⟨hs, fun w' => ?_, ⟨⟨_, _, by rw [List.length_take, Nat.min_eq_left hk], fun e => ?_, by rw [List.length_take]; omega, by omega, fun ad had => ?_⟩, by rw [List.length_take]; omega⟩⟩
  · rw [run_sliceAt_slice (P := Tryz.prog) (w := w') (t := 22) (h := by rw [elem47]; exact Tryz.underlying22)]
    exact hs w'
  · obtain ⟨h7, rfl⟩ := hn e
    have : bs.length = 0 := by rw [h7]; rfl
    exact ⟨by simp [h7], by omega⟩
  · obtain ⟨h1, h2⟩ := hr ad had
    exact ⟨fun hne => h1 (fun e => hne (by rw [e]; simp)), fun j u hu => h2 j u (cellsB_take bs k j u hu)⟩
theorem els_set {own : Nat → Prop} {vs : List Value} {R : List Fl} {i : Nat} {v' : Value} {f' : Fl} (h : (aEls vs R).at_ own w) (hl : vs.length = R.length) (hv : Bs w v' f'.b) (ho : ∀ g, v'.ownBlock = some g → f'.b ≠ [] → own g)
    (hd : ∀ j g, inB vs R j g → v'.ownBlock = some g → f'.b ≠ [] → j = i) : (aEls (vs.set i v') (R.set i f')).at_ own w := by
  refine ⟨fun j x hx => ?_, fun j k g a b => ?_⟩
  · rw [List.getElem?_set] at hx
    split at hx
    · rename_i e
      subst e
      split at hx
      · rename_i hj
        have := Option.some.inj hx
        subst this
        exact ⟨v', by rw [List.getElem?_set, if_pos rfl, if_pos (by omega)], hv, ho⟩
      · cases hx
    · rename_i e
      obtain ⟨v, k1, k2, k3⟩ := h.1 j x hx
      exact ⟨v, by rw [List.getElem?_set, if_neg e]; exact k1, k2, k3⟩
  · rcases inB_set a with ⟨e1, a1, a2⟩ | ⟨e1, a1⟩
    · rcases inB_set b with ⟨e2, b1, b2⟩ | ⟨e2, b1⟩
      · rw [e1, e2]
      · exact absurd (hd k g b1 a2 a1) e2
    · rcases inB_set b with ⟨e2, b1, b2⟩ | ⟨e2, b1⟩
      · exact absurd (hd j g a1 b2 b1) e1
      · exact h.2 j k g a1 b1
theorem els_cut {vs : List Value} {R : List Fl} {i k s : Nat} {f : Fl} {A : Option Addr} {c : Nat} (h : St W w (aEls vs R :: X)) (hl : vs.length = R.length) (hf : R[i]? = some f) (hv : vs[i]? = some (.slice A f.b.length c)) (hk : k ≤ f.b.length) : St W w (aEls (vs.set i (.slice A k k)) (R.set i ⟨f.nm, f.b.take k, s⟩) :: X) :=
  h.conv fun own ha => by
    obtain ⟨v, k1, k2, k3⟩ := ha.1 i f hf
    rw [hv] at k1
    obtain rfl := Option.some.inj k1
    have hob : ∀ g, (Value.slice A k k).ownBlock = some g → (Value.slice A f.b.length c).ownBlock = some g := fun g hg => by
      cases A with
      | none => simp [Value.ownBlock] at hg
      | some a => simpa [Value.ownBlock] using hg
    refine els_set ha hl (k2.cutCap k hk).2.2 (fun g hg hne => k3 g (hob g hg) (fun e => hne (by simp [e]))) fun j g hj hg hne => ?_
    exact ha.2 j i g hj ⟨f, _, hf, hv, fun e => hne (by simp [e]), hob g hg⟩
/-- bytes of their own become a file's -/
theorem els_own {vs : List Value} {R : List Fl} {i : Nat} {f' : Fl} {v' : Value} (h : St W w (aBs v' f'.b :: aEls vs R :: X)) (hl : vs.length = R.length) : St W w (aEls (vs.set i v') (R.set i f') :: X) :=
  h.join fun o o' ha he hno => by
    have he' : (aEls vs R).at_ (fun x => o x ∨ o' x) w := ⟨fun j x hx => by
      obtain ⟨v, k1, k2, k3⟩ := he.1 j x hx
      exact ⟨v, k1, k2, fun g hg hne => .inr (k3 g hg hne)⟩, he.2⟩
    refine els_set he' hl ha.1 (fun g hg hne => .inl (ha.2 g hg hne)) fun j g ⟨x, v, k1, k2, k3, k4⟩ hg hne => ?_
    obtain ⟨u, z1, z2, z3⟩ := he.1 j x k1
    rw [k2] at z1
    obtain rfl := Option.some.inj z1
    exact absurd (ha.2 g hg hne) (hno g (z3 g k4 k3))
theorem els_new {vs : List Value} {R : List Fl} {i : Nat} {f' : Fl} {v' : Value} (h : St W w (aBy v' f'.b :: aEls vs R :: X)) (hl : vs.length = R.length) (hb : f'.b.length ≤ big) : St W w (aEls (vs.set i v') (R.set i f') :: X) :=
  els_own (h.conv (C := aBs v' f'.b) fun own ha => ⟨Bs.of_own ha.1 hb, fun g hg _ => ha.2 g hg⟩) hl
theorem cellsF_set {vs : List Value} {R : List Fl} {i : Nat} {f f' : Fl} (v' : Value) (hf : R[i]? = some f) (hn : f'.nm = f.nm) : ((cellsF vs R).set (i * 3 + 1) v').set (i * 3 + 2) (.int .i64 (f'.sure : Int)) = cellsF (vs.set i v') (R.set i f') := by
  rw [cellsF_setB i v', cellsF_setS i f f'.sure hf]
  have hi : i < R.length := by
    rcases Nat.lt_or_ge i R.length with h' | h'
    · exact h'
    · rw [List.getElem?_eq_none h'] at hf; cases hf
  have e2 : (R.set i ⟨f.nm, f.b, f'.sure⟩)[i]? = some ⟨f.nm, f.b, f'.sure⟩ := by rw [List.getElem?_set, if_pos rfl, if_pos hi]
  have := cellsF_bytes (vs := vs.set i v') f'.b e2
  rw [← this, List.set_set, ← hn]
/-- both cells of a file stored -/
theorem rd_both {c : Nat} {vs : List Value} {i : Nat} {f f' : Fl} {g : Nat} {v' : Value} (h2 : vs.length = d.R.length)
    (h : St W w (aBlk p 89 #[.slice (some ⟨g, 0, none⟩) d.R.length c, .int .i64 d.room, .bool d.off] :: aRow 147 3 (.slice (some ⟨g, 0, none⟩) d.R.length c) d.R.length (cellsF vs d.R) :: aEls (vs.set i v') (d.R.set i f') :: X)) (hf : d.R[i]? = some f) (hn : f'.nm = f.nm)
    (hok : ({ d with R := d.R.set i f' } : Dk).ok) : St W ((w.setCell ⟨g, i * 3 + 1, none⟩ v').setCell ⟨g, i * 3 + 2, none⟩ (.int .i64 (f'.sure : Int))) (aRdk p { d with R := d.R.set i f' } :: X) := by
  have hi : i < d.R.length := by
    rcases Nat.lt_or_ge i d.R.length with h' | h'
    · exact h'
    · rw [List.getElem?_eq_none h'] at hf; cases hf
  have h4 := St.rowSet (St.rowSet h.swap (j := i * 3 + 1) (by omega) v') (j := i * 3 + 2) (by omega) (.int .i64 (f'.sure : Int))
  rw [cellsF_set v' hf hn] at h4
  have h5 := h4.swap
  have e1 : d.R.length = ({ d with R := d.R.set i f' } : Dk).R.length := by simp
  refine aRdk.shut (v := .slice (some ⟨g, 0, none⟩) d.R.length c) (vs := vs.set i v') hok (by rw [← e1, List.length_set]; exact h2) ?_
  rw [← e1]
  exact h5
set_option maxRecDepth 20000 in
set_option maxHeartbeats 2000000 in
theorem rtrunc_c {k : Int} (h : St W w (aRdk p d :: X)) (hk : k ≤ 9223372036854775807) : Calls Tryz.prog 100 #[.pointer (some ⟨p, 0, none⟩), .string (bstr n), .int .i64 k] w fun e w' => e = .returned (.int .i64 (truncF d n k).1) ∧ St W w' (aRdk p (truncF d n k).2 :: X) := by
  have H0 := Lib.hid h
  obtain ⟨A, c, vs, h1, h2, h3⟩ := aRdk.open_ h
  cases hm : mayF d n with
  | mk o er =>
  cases o with
  | none =>
    have hf : truncF d n k = (er, d) := turn_none hm
    have HF := Lib.hid (rmay_no h hm)
    have q1 : (er != 0) = true := by simpa using may_none hm
    rw [hf]
    clear h h1 h2 h3 hm hf
    go_enter Tryz.func100, Tryz.ntmps100
    go_wp2_with (first | (go_at_call 104; (with_reducible refine HF.out.mono ?_); rintro e w1 ⟨rfl, rfl⟩))
    go_ret
    exact ⟨rfl, H0.out⟩
  | some i =>
    obtain ⟨_, _, f, hd, _⟩ := may_some hm
    have hf := turn_some (g := fun f => if k < 0 ∨ (f.b.length : Int) < k then (1, f) else (0, ⟨f.nm, f.b.take k.toNat, min f.sure k.toNat⟩)) hm hd
    have hok := trunc_ok h1 n k
    unfold truncF at hok ⊢
    rw [hf] at hok ⊢
    have HF := Lib.hid (rmay_yes h hm)
    have c0 := (aBlk.get h3).cell 0
    simp at c0
    obtain ⟨g, Ab, cb, hA, hvi, hbs, _, k1, k2⟩ := rd_facts h2 h3 hd
    have hpg := rd_ne h3 hA
    subst hA
    have f1 : w.frozen? ⟨g, i * 3 + 1, none⟩ = false := St.rowFree h3.swap _
    have f2 : w.frozen? ⟨g, i * 3 + 2, none⟩ = false := St.rowFree h3.swap _
    have hil : (i : Int) < (d.R.length : Int) := by
      have : i < d.R.length := by
        rcases Nat.lt_or_ge i d.R.length with h' | h'
        · exact h'
        · rw [List.getElem?_eq_none h'] at hd; cases hd
      omega
    by_cases q1 : k < 0
    · rw [if_pos (.inl q1)]
      simp only
      rw [set_same hd]
      generalize d.R.length = N at *
      clear h h1 h2 h3 hm hf hd hbs hok hk
      go_enter Tryz.func100, Tryz.ntmps100
      go_wp2_with (first | (go_at_call 104; (with_reducible refine HF.out.mono ?_); rintro e w1 ⟨rfl, rfl⟩))
      go_ret
      exact ⟨rfl, H0.out⟩
    · by_cases q2 : (f.b.length : Int) < k
      · rw [if_pos (.inr q2)]
        simp only
        rw [set_same hd]
        generalize d.R.length = N at *
        clear h h1 h2 h3 hm hf hd hbs hok hk
        go_enter Tryz.func100, Tryz.ntmps100
        go_wp2_with (first | (go_at_call 104; (with_reducible refine HF.out.mono ?_); rintro e w1 ⟨rfl, rfl⟩))
        go_ret
        exact ⟨rfl, H0.out⟩
      · rw [if_neg (by omega)] at hok ⊢
        simp only at hok ⊢
        obtain ⟨j, rfl⟩ := Int.eq_ofNat_of_zero_le (show 0 ≤ k by omega)
        rw [Int.toNat_natCast] at hok ⊢
        have hjl : j ≤ f.b.length := by omega
        obtain ⟨s1, s2, _⟩ := hbs.cutCap j hjl
        have HP := Lib.hid (fun (w' : World) (hw : B w w') => rd_both (f' := ⟨f.nm, f.b.take j, min f.sure j⟩) (v' := .slice Ab j j) h2 ((els_cut (s := min f.sure j) (h3.later hw).rot3 h2 hd hvi hjl).rot3.rot3) hd rfl hok)
        simp only at HP
        have hj63 : (j : Int) ≤ 9223372036854775807 := hk
        by_cases hms : (f.sure : Int) ≤ j
        case' pos =>
          rw [show min f.sure j = f.sure by omega] at HP ⊢
          have hmi : min (f.sure : Int) (j : Int) = (f.sure : Int) := by omega
        case' neg =>
          rw [show min f.sure j = j by omega] at HP ⊢
          have hmi : min (f.sure : Int) (j : Int) = (j : Int) := by omega
        all_goals
          generalize d.R.length = N at *
          clear h h1 h2 h3 hm hf hd hbs hok hk hjl hvi
          go_enter Tryz.func100, Tryz.ntmps100
          go_wp2_with (first | (go_at_call 104; (with_reducible refine HF.out.mono ?_); rintro e w1 ⟨rfl, rfl⟩))
          go_region
        all_goals
          go_wp2_with fail
          go_region
        all_goals
          go_wp2_with fail
          go_ret
          exact ⟨rfl, (HP.out _ (Below.refl _ _)).later (Below.refl _ _).drew.drew⟩
end
end Go.Proofs.YtnpjfjgnhadmjaaGreatDoor

/- The reference's disk: Write. -/
namespace Go.Proofs.YtnpjfjgnhadmjaaGreatDoor
open Go.RowKit Go.Maps Go.Deep
set_option linter.unusedVariables false

section
variable {W w : World} {p m : Nat} {d : Dk} {X L : List Asn} {n : List UInt8} {A C D : Asn}
theorem cellsB_nil : cellsB [] = [] := rfl
theorem els_bs {vs : List Value} {R : List Fl} {i : Nat} {f : Fl} {v : Value} (h : St W w (aEls vs R :: X)) (hf : R[i]? = some f) (hv : vs[i]? = some v) : Bs w v f.b := by
  obtain ⟨own, he, _⟩ := h.get
  obtain ⟨v', k1, k2, _⟩ := he.1 i f hf
  rw [hv] at k1
  obtain rfl := Option.some.inj k1
  exact k2
set_option maxRecDepth 20000 in
set_option maxHeartbeats 4000000 in
theorem rwrite_c {k : Int} {u : Value} {b : List UInt8} (h : St W w (aRdk p d :: X)) (hu : Bs W u b) (hbl : b.length ≤ 4194304000) : Calls Tryz.prog 116 #[.pointer (some ⟨p, 0, none⟩), .string (bstr n), .int .i64 k, u] w fun e w' => e = .returned (.int .i64 (writeF d n k b).1) ∧ St W w' (aRdk p (writeF d n k b).2 :: X) := by
  have H0 := Lib.hid h
  obtain ⟨A, c, vs, h1, h2, h3⟩ := aRdk.open_ h
  obtain ⟨Au, cu, hus⟩ := hu.rd.slice
  obtain ⟨lb, hlb⟩ : ∃ l, b.length = l := ⟨_, rfl⟩
  rw [hlb] at hus hbl
  subst hus
  cases hm : mayF d n with
  | mk o er =>
  cases o with
  | none =>
    have hf : writeF d n k b = (er, d) := turn_none hm
    have HF := Lib.hid (rmay_no h hm)
    have q1 : (er != 0) = true := by simpa using may_none hm
    rw [hf]
    clear h h1 h2 h3 hm hf hu
    go_enter Tryz.func116, Tryz.ntmps116
    go_wp2_with (first | (go_at_call 104; (with_reducible refine HF.out.mono ?_); rintro e w1 ⟨rfl, rfl⟩))
    go_ret
    exact ⟨rfl, H0.out⟩
  | some i =>
    obtain ⟨_, _, f, hd, hnm⟩ := may_some hm
    clear hnm
    have hf := turn_some (g := writeB d k b) hm hd
    have hok := write_ok h1 n k b
    unfold writeF at hok ⊢
    rw [hf] at hok ⊢
    unfold writeB at hok ⊢
    rw [hlb] at hok ⊢
    have HF := Lib.hid (rmay_yes h hm)
    have c0 := (aBlk.get h3).cell 0
    have c1 := (aBlk.get h3).cell 1
    simp at c0 c1
    obtain ⟨g, Ab, cb, hA, hvi, hbs, k0, k1, k2⟩ := rd_facts h2 h3 hd
    have hpg := rd_ne h3 hA
    subst hA
    have f1 : w.frozen? ⟨g, i * 3 + 1, none⟩ = false := St.rowFree h3.swap _
    have f2 : w.frozen? ⟨g, i * 3 + 2, none⟩ = false := St.rowFree h3.swap _
    have hil : (i : Int) < (d.R.length : Int) := by
      have : i < d.R.length := by
        rcases Nat.lt_or_ge i d.R.length with h' | h'
        · exact h'
        · rw [List.getElem?_eq_none h'] at hd; cases hd
      omega
    have hpl : p < w.heap.size := (aBlk.get h3).lt
    have hgl : g < w.heap.size := by
      obtain ⟨own, hr, _⟩ := h3.swap.get
      exact row_lt hr.1 rfl
    by_cases q1 : k < 0
    · rw [if_pos (.inl q1)]
      simp only
      rw [set_same hd]
      generalize d.R.length = N at *
      clear h h1 h2 h3 hm hf hd hbs hok hu hlb
      go_enter Tryz.func116, Tryz.ntmps116
      go_wp2_with (first | (go_at_call 104; (with_reducible refine HF.out.mono ?_); rintro e w1 ⟨rfl, rfl⟩))
      go_ret
      exact ⟨rfl, H0.out.later (B.alloc' _ _)⟩
    · by_cases q2 : (f.b.length : Int) < k
      · rw [if_pos (.inr q2)]
        simp only
        rw [set_same hd]
        generalize d.R.length = N at *
        clear h h1 h2 h3 hm hf hd hbs hok hu hlb
        go_enter Tryz.func116, Tryz.ntmps116
        go_wp2_with (first | (go_at_call 104; (with_reducible refine HF.out.mono ?_); rintro e w1 ⟨rfl, rfl⟩))
        go_ret
        exact ⟨rfl, H0.out.later (B.alloc' _ _)⟩
      · rw [if_neg (by omega)] at hok ⊢
        obtain ⟨j, rfl⟩ := Int.eq_ofNat_of_zero_le (show 0 ≤ k by omega)
        rw [Int.toNat_natCast] at hok ⊢
        have hjl : j ≤ f.b.length := by omega
        have hus := h1.used
        have hrm := h1.room
        have hfl : f.b.length ≤ 4194304 := by
          have := used_drop hd
          omega
        have HU := Lib.hid (fun (n : Nat) => rused_c (h.later ((B.alloc' w (.cells #[.string (bstr f.nm), .slice Ab f.b.length cb, .int .i64 (f.sure : Int)] 147)).trans (B.drewN' n))))
        generalize usedF d.R = us at *
        have hw0 : IntKind.i64.wrap (d.room - (us : Int)) = d.room - (us : Int) := wrap_sub (by omega) (by omega)
        have hw1 : IntKind.i64.wrap ((f.b.length : Int) - (j : Int)) = (f.b.length : Int) - (j : Int) := wrap_sub (by omega) (by omega)
        have hw2 : IntKind.i64.wrap ((lb : Int) - ((f.b.length : Int) - (j : Int))) = (lb : Int) - ((f.b.length : Int) - (j : Int)) := wrap_sub (by omega) (by omega)
        by_cases q3 : d.room - us < (lb : Int) - ((f.b.length : Int) - (j : Int))
        · rw [if_pos q3]
          simp only
          rw [set_same hd]
          have q5 : 0 < (lb : Int) - ((f.b.length : Int) - (j : Int)) := by omega
          generalize d.R.length = N at *
          clear h h1 h2 h3 hm hf hd hbs hok hu hlb
          go_enter Tryz.func116, Tryz.ntmps116
          go_wp2_with (first | (go_at_call 104; (with_reducible refine HF.out.mono ?_); rintro e w1 ⟨rfl, rfl⟩))
          go_quiet ((go_at_call 130; exact Calls.quiet_of_same ((HU.out _).mono fun _ _ ⟨a, b⟩ => ⟨a, b.symm⟩)))
          all_goals
            go_wp2_with fail
            go_ret
            exact ⟨rfl, H0.out.later ((B.alloc' _ _).trans (B.drewN' _))⟩
        · rw [if_neg q3] at hok ⊢
          simp only at hok ⊢
          obtain ⟨A1, c1', s1, s2, hb1, _⟩ := hbs.cutTo j hjl
          have KC := Lib.hid (fun (n : Nat) => (hb1.later ((B.alloc' w (.cells #[.string (bstr f.nm), .slice Ab f.b.length cb, .int .i64 (f.sure : Int)] 147)).trans (B.drewN' n))).rd)
          have HNN := Lib.hid (fun (n : Nat) => (aBlk.new h3 147 #[.string (bstr f.nm), .slice Ab f.b.length cb, .int .i64 (f.sure : Int)]).later (B.drewN' n))
          have hjt : (f.b.take j).length = j := by rw [List.length_take]; omega
          rw [hjt] at KC
          have HUB := Lib.hid (fun (w' : World) (hw : B W w') => (show Rd w' (.slice Au lb cu) lb 1 (cellsB b) from hlb ▸ (hu.later hw).rd))
          have o1 := cellsB_one (f.b.take j)
          have o2 := cellsB_one b
          have g1 : 0 + j ≤ maxLen := by unfold maxLen; omega
          have g2 : (0 + j) * 1 ≤ 140737488355328 := by omega
          have g3 : j + lb ≤ maxLen := by unfold maxLen; omega
          have g4 : (j + lb) * 1 ≤ 140737488355328 := by omega
          have HCC := Lib.hid (fun (w' : World) (Y : Asn) (hS : St W w' (Y :: aBlk w.heap.size 147 #[.string (bstr f.nm), .slice Ab f.b.length cb, .int .i64 (f.sure : Int)] :: aBlk p 89 #[.slice (some ⟨g, 0, none⟩) d.R.length c, .int .i64 d.room, .bool d.off] :: aRow 147 3 (.slice (some ⟨g, 0, none⟩) d.R.length c) d.R.length (cellsF vs d.R) :: aEls vs d.R :: X)) =>
            show w'.cell? ⟨w.heap.size, 1, none⟩ = some (.slice Ab f.b.length cb) ∧ w'.cell? ⟨w.heap.size, 2, none⟩ = some (.int .i64 (f.sure : Int)) ∧ w'.cell? ⟨p, 0, none⟩ = some (.slice (some ⟨g, 0, none⟩) d.R.length c) ∧ w'.frozen? ⟨g, i * 3 + 1, none⟩ = false ∧ w'.frozen? ⟨g, i * 3 + 2, none⟩ = false ∧ w'.cell? ⟨g, i * 3 + 1, none⟩ = some (.slice Ab f.b.length cb) ∧ w'.cell? ⟨g, i * 3 + 2, none⟩ = some (.int .i64 (f.sure : Int)) from by
            obtain ⟨_, z1, z2⟩ := cellsF_at hvi hd
            have a1 := (aBlk.get hS.drop).cell 1
            have a2 := (aBlk.get hS.drop).cell 2
            have a3 := (aBlk.get hS.drop.drop).cell 0
            simp at a1 a2 a3
            exact ⟨a1, a2, a3, St.rowFree hS.drop.drop.drop _, St.rowFree hS.drop.drop.drop _, St.row3 hS.drop.drop.drop z1, St.row3 hS.drop.drop.drop z2⟩)
          have hqg : w.heap.size ≠ g := by omega
          have hqp : w.heap.size ≠ p := by omega
          obtain ⟨nb, hnb⟩ : ∃ nb, f.b.take j ++ b ++ f.b.drop (j + lb) = nb := ⟨_, rfl⟩
          rw [hnb] at hok ⊢
          obtain ⟨t, ht⟩ : ∃ t, j + lb = t := ⟨_, rfl⟩
          rw [ht] at hnb
          have HT := Lib.hid ht
          have hnl : nb.length ≤ big := by rw [← hnb]; simp; unfold big; omega
          have HK := Lib.hid (fun (w' : World) (v' : Value) (hS : St W w' (aBy v' nb :: aBlk w.heap.size 147 #[.string (bstr f.nm), .slice Ab f.b.length cb, .int .i64 (f.sure : Int)] :: aBlk p 89 #[.slice (some ⟨g, 0, none⟩) d.R.length c, .int .i64 d.room, .bool d.off] :: aRow 147 3 (.slice (some ⟨g, 0, none⟩) d.R.length c) d.R.length (cellsF vs d.R) :: aEls vs d.R :: X)) =>
            show St W ((w'.setCell ⟨g, i * 3 + 1, none⟩ v').setCell ⟨g, i * 3 + 2, none⟩ (.int .i64 ((min f.sure j : Nat) : Int))) (aRdk p { d with R := d.R.set i ⟨f.nm, nb, min f.sure j⟩ } :: X) from by
            have a1 := hS.swap.drop
            have a2 := a1.rot3.rot3
            have a3 : St W w' (aBy v' nb :: aEls vs d.R :: aBlk p 89 #[.slice (some ⟨g, 0, none⟩) d.R.length c, .int .i64 d.room, .bool d.off] :: aRow 147 3 (.slice (some ⟨g, 0, none⟩) d.R.length c) d.R.length (cellsF vs d.R) :: X) := a1.perm (by
              refine List.Perm.cons _ ?_
              exact (List.Perm.cons _ (List.Perm.swap _ _ _)).trans (List.Perm.swap _ _ _))
            have a4 := els_new (f' := ⟨f.nm, nb, min f.sure j⟩) (i := i) a3 h2 hnl
            exact rd_both (f' := ⟨f.nm, nb, min f.sure j⟩) (v' := v') h2 a4.rot3.rot3 hd rfl hok)
          by_cases hms : (f.sure : Int) ≤ j
          case' pos =>
            have hmi : min (f.sure : Int) (j : Int) = (f.sure : Int) := by omega
            rw [show min f.sure j = f.sure by omega] at HK ⊢
          case' neg =>
            have hmi : min (f.sure : Int) (j : Int) = (j : Int) := by omega
            rw [show min f.sure j = j by omega] at HK ⊢
          all_goals
            by_cases q4 : t < f.b.length
            case' pos =>
              obtain ⟨A2, c2', s3, s4, _, _⟩ := hbs.cut t (by omega)
              have HCU := Lib.hid (fun (w' : World) (Y : Asn) (hS : St W w' (Y :: aBlk w.heap.size 147 #[.string (bstr f.nm), .slice Ab f.b.length cb, .int .i64 (f.sure : Int)] :: aBlk p 89 #[.slice (some ⟨g, 0, none⟩) d.R.length c, .int .i64 d.room, .bool d.off] :: aRow 147 3 (.slice (some ⟨g, 0, none⟩) d.R.length c) d.R.length (cellsF vs d.R) :: aEls vs d.R :: X)) =>
                show Rd w' (.slice A2 (f.b.length - t) c2') (f.b.length - t) 1 (cellsB (f.b.drop t)) from by
                obtain ⟨A3, c3, t3, t4, t5, _⟩ := (els_bs hS.drop.drop.drop.drop hd hvi).cut t (by omega)
                have e1 := (t3 w').symm.trans (s3 w')
                injection e1 with e1
                injection e1 with e2 e3 e4
                subst e2 e4
                have := t5.rd
                rw [List.length_drop] at this
                exact this)
              have o3 := cellsB_one (f.b.drop t)
              have g5 : t + (f.b.length - t) ≤ maxLen := by unfold maxLen; omega
              have g6 : (t + (f.b.length - t)) * 1 ≤ 140737488355328 := by omega
              have HN3 := Lib.hid (show (cellsB (f.b.take j) ++ cellsB b) ++ cellsB (f.b.drop t) = cellsB nb by rw [← cellsB_app, ← cellsB_app, hnb])
              have HL3 := Lib.hid (show t + (f.b.length - t) = nb.length by rw [← hnb]; simp; omega)
              have q6 : (t : Int) < (f.b.length : Int) := by omega
            case' neg =>
              have HN3 := Lib.hid (show (cellsB (f.b.take j) ++ cellsB b) = cellsB nb by rw [← cellsB_app, ← hnb, List.drop_eq_nil_of_le (by omega), List.append_nil])
              have HL3 := Lib.hid (show t = nb.length by rw [← hnb, List.drop_eq_nil_of_le (by omega)]; simp; omega)
              have q6 : ¬ (t : Int) < (f.b.length : Int) := by omega
          all_goals
            generalize d.R.length = N at *
            obtain ⟨lj, hlj⟩ : ∃ z : Int, (f.b.length : Int) - (j : Int) = z := ⟨_, rfl⟩
            rw [hlj] at hw1 hw2 q3
            obtain ⟨gr, hgr⟩ : ∃ z : Int, (lb : Int) - lj = z := ⟨_, rfl⟩
            rw [hgr] at hw2 q3
            obtain ⟨rs, hrs⟩ : ∃ z : Int, d.room - (us : Int) = z := ⟨_, rfl⟩
            rw [hrs] at hw0 q3
            have hw1 : IntKind.i64.wrap ((f.b.length : Int) - (j : Int)) = lj := by rw [hlj]; exact hw1
            have hw2 : IntKind.i64.wrap ((lb : Int) - lj) = gr := by rw [hgr]; exact hw2
            have hw0 : IntKind.i64.wrap (d.room - (us : Int)) = rs := by rw [hrs]; exact hw0
            clear hlj hgr hrs
            have q3b : (decide (rs < gr)) = false := decide_eq_false q3
            have q3c : gr ≤ rs := by omega
            clear h h1 h2 h3 hm hf hd hbs hok hu hlb hb1 hnb hnl hvi hjt ht
            go_enter Tryz.func116, Tryz.ntmps116
            go_wp2_with (first | (go_at_call 104; (with_reducible refine HF.out.mono ?_); rintro e w1 ⟨rfl, rfl⟩))
            go_quiet ((go_at_call 130; exact Calls.quiet_of_same ((HU.out _).mono fun _ _ ⟨a, b⟩ => ⟨a, b.symm⟩)))
          all_goals
            go_wp2_with (first
              | (at_builtin; refine wpList_append_St rfl (.tmp 60) (.tmp 64) 22 rfl Tryz.underlying22 info5 rfl Nat.zero_lt_one rfl rfl (aBy.nil (HNN.out _)) (KC.out _) o1 g1 g2 ?_; intro A3 c3 w3 hS; simp only [List.length_nil, Nat.zero_add, cellsB_nil, List.nil_append] at hS; simp only [List.length_nil, Nat.zero_add]; have H3 := Lib.hid hS; clear hS)
              | (at_builtin; refine wpList_append_St rfl (.tmp 65) (.tmp 66) 22 rfl Tryz.underlying22 info5 rfl Nat.zero_lt_one rfl rfl H3.out (HUB.out _ H3.out.b) o2 g3 g4 ?_; intro A4 c4 w4 hS; obtain ⟨kc1, kc2, kp0, kf1, kf2, kg1, kg2⟩ := HCC.out _ _ hS; simp only [HT.out] at hS; simp only [HT.out]; have H4 := Lib.hid hS; clear hS)
              | (at_builtin; refine wpList_append_St rfl (.tmp 74) (.tmp 79) 22 rfl Tryz.underlying22 info5 rfl Nat.zero_lt_one rfl rfl H4.out (HCU.out _ _ H4.out) o3 g5 g6 ?_; intro A5 c5 w5 hS; clear kc1 kc2 kp0 kf1 kf2 kg1 kg2; obtain ⟨kc1, kc2, kp0, kf1, kf2, kg1, kg2⟩ := HCC.out _ _ hS; simp only [HL3.out] at hS; simp only [HL3.out]; have H5 := Lib.hid hS; clear hS))
            go_region
          all_goals
            go_wp2_with fail
            go_ret
            first
              | (have h9 := H5.out
                 rw [HN3.out] at h9
                 exact ⟨rfl, (HK.out _ _ h9).later (Below.refl _ _).drew⟩)
              | (have h9 := H4.out
                 rw [HN3.out] at h9
                 refine ⟨rfl, (HK.out w4 (.slice A4 t c4) ?_).later (Below.refl _ _).drew⟩
                 unfold aBy
                 rw [← HL3.out]
                 exact h9)
end
end Go.Proofs.YtnpjfjgnhadmjaaGreatDoor

/- The reference's disk: Append. -/
namespace Go.Proofs.YtnpjfjgnhadmjaaGreatDoor
open Go.RowKit Go.Maps Go.Deep
set_option linter.unusedVariables false

section
variable {W w : World} {p m : Nat} {d : Dk} {X L : List Asn} {n : List UInt8} {A C D : Asn}
theorem at_lt {R : List Fl} {i : Nat} {f : Fl} (hf : R[i]? = some f) : i < R.length := by
  rcases Nat.lt_or_ge i R.length with h' | h'
  · exact h'
  · rw [List.getElem?_eq_none h'] at hf; cases hf
/-- what is sure of a file stored again -/
theorem rd_again {i : Nat} {f : Fl} (h : St W w (aRdk p d :: X)) (hf : d.R[i]? = some f) : ∃ g c N, w.cell? ⟨p, 0, none⟩ = some (.slice (some ⟨g, 0, none⟩) N c) ∧ (i : Int) < (N : Int) ∧ w.cell? ⟨g, i * 3 + 2, none⟩ = some (.int .i64 (f.sure : Int)) ∧ w.frozen? ⟨g, i * 3 + 2, none⟩ = false ∧ p ≠ g ∧
    St W (w.setCell ⟨g, i * 3 + 2, none⟩ (.int .i64 (f.sure : Int))) (aRdk p d :: X) := by
  obtain ⟨A, c, vs, h1, h2, h3⟩ := aRdk.open_ h
  have c0 := (aBlk.get h3).cell 0
  simp at c0
  obtain ⟨g, Ab, cb, hA, _, hbs, _, k1, k2⟩ := rd_facts h2 h3 hf
  have hpg := rd_ne h3 hA
  have e : ({ d with R := d.R.set i ⟨f.nm, f.b, f.sure⟩ } : Dk) = d := set_same hf
  have h5 := rd_put (g := g) h1 h2 h3 hf hA f.sure (by rw [e]; exact h1)
  rw [e] at h5
  subst hA
  have := at_lt hf
  exact ⟨g, c, _, c0, by omega, k2, St.rowFree h3.swap _, hpg, h5⟩
theorem append_write {i : Nat} {er : Int} {f : Fl} {b : List UInt8} (h : d.ok) (hm : mayF d n = (some i, er)) (hd : d.R[i]? = some f) :
    writeF d n (f.b.length : Int) b = appendF d n b ∧ ∃ f', (appendF d n b).2.R[i]? = some f' ∧ f'.sure = f.sure := by
  have hs := h.sure f (List.mem_of_getElem? hd)
  have e1 : writeF d n (f.b.length : Int) b = _ := turn_some hm hd
  have e2 : appendF d n b = _ := turn_some hm hd
  rw [e1, e2]
  unfold writeB
  rw [if_neg (by omega)]
  have e3 : (b.length : Int) - ((f.b.length : Int) - (f.b.length : Int)) = (b.length : Int) := by omega
  rw [e3]
  by_cases q : d.room - usedF d.R < (b.length : Int)
  · rw [if_pos q, if_pos q]
    exact ⟨rfl, f, by simp only; rw [List.getElem?_set, if_pos rfl, if_pos (at_lt hd)], rfl⟩
  · rw [if_neg q, if_neg q]
    have e4 : f.b.take ((f.b.length : Int)).toNat ++ b ++ f.b.drop (((f.b.length : Int)).toNat + b.length) = f.b ++ b := by
      rw [Int.toNat_natCast, List.take_length, List.drop_eq_nil_of_le (by omega), List.append_nil]
    have e5 : min f.sure ((f.b.length : Int)).toNat = f.sure := by rw [Int.toNat_natCast]; omega
    rw [e4, e5]
    exact ⟨rfl, ⟨f.nm, f.b ++ b, f.sure⟩, by simp only; rw [List.getElem?_set, if_pos rfl, if_pos (at_lt hd)], rfl⟩
set_option maxRecDepth 20000 in
set_option maxHeartbeats 2000000 in
theorem rappend_c {u : Value} {b : List UInt8} (h : St W w (aRdk p d :: X)) (hu : Bs W u b) (hbl : b.length ≤ 4194304000) : Calls Tryz.prog 94 #[.pointer (some ⟨p, 0, none⟩), .string (bstr n), u] w fun e w' => e = .returned (.int .i64 (appendF d n b).1) ∧ St W w' (aRdk p (appendF d n b).2 :: X) := by
  have H0 := Lib.hid h
  obtain ⟨A, c, vs, h1, h2, h3⟩ := aRdk.open_ h
  cases hm : mayF d n with
  | mk o er =>
  cases o with
  | none =>
    have hf : appendF d n b = (er, d) := turn_none hm
    have HF := Lib.hid (rmay_no h hm)
    have q1 : (er != 0) = true := by simpa using may_none hm
    obtain ⟨Au, cu, rfl⟩ := hu.rd.slice
    rw [hf]
    clear h h1 h2 h3 hm hf hu
    go_enter Tryz.func94, Tryz.ntmps94
    go_wp2_with (first | (go_at_call 104; (with_reducible refine HF.out.mono ?_); rintro e w1 ⟨rfl, rfl⟩))
    go_ret
    exact ⟨rfl, H0.out⟩
  | some i =>
    obtain ⟨_, _, f, hd, hnm⟩ := may_some hm
    clear hnm
    obtain ⟨e1, f', hd', hs'⟩ := append_write (b := b) h1 hm hd
    have HF := Lib.hid (rmay_yes h hm)
    have c0 := (aBlk.get h3).cell 0
    simp at c0
    obtain ⟨g, Ab, cb, hA, _, hbs, _, k1, k2⟩ := rd_facts h2 h3 hd
    subst hA
    have hil : (i : Int) < (d.R.length : Int) := by have := at_lt hd; omega
    have HW := Lib.hid (rwrite_c (n := n) (k := (f.b.length : Int)) h hu hbl)
    rw [e1] at HW
    generalize (appendF d n b).1 = er' at *
    generalize (appendF d n b).2 = d' at *
    have HG := Lib.hid (fun (w' : World) (hS : St W w' (aRdk p d' :: X)) => rd_again hS hd')
    rw [hs'] at HG
    obtain ⟨Au, cu, rfl⟩ := hu.rd.slice
    generalize d.R.length = N at *
    clear h h1 h2 h3 hm hd hbs hu e1 hd' hs'
    go_enter Tryz.func94, Tryz.ntmps94
    go_wp2_with (first
      | (go_at_call 104; (with_reducible refine HF.out.mono ?_); rintro e w1 ⟨rfl, rfl⟩)
      | (go_at_call 116; (with_reducible refine HW.out.mono ?_); rintro e w2 ⟨rfl, hS⟩; obtain ⟨g2, c2, N2, z0, z1, z2, z3, z4, z5⟩ := HG.out _ hS; have H5 := Lib.hid z5; clear hS z5))
    go_ret
    exact ⟨rfl, H5.out⟩
end
end Go.Proofs.YtnpjfjgnhadmjaaGreatDoor

/- The reference's disk: rows of files cut; Remove. -/
namespace Go.Proofs.YtnpjfjgnhadmjaaGreatDoor
open Go.RowKit Go.Maps Go.Deep
set_option linter.unusedVariables false

theorem elemF : Tryz.prog.elem 87 = 147 := by kernel_rfl
theorem sizeF (w : World) : (sizeOf 147).run Tryz.prog w = .ok 3 w := by kernel_rfl
theorem infoF : (Tryz.prog.info? 147).map (fun i => (i.zero, i.size, i.bytes)) = some (some (.agg #[.string ⟨#[]⟩, .slice none 0 0, .int .i64 0]), 3, 48) := by kernel_rfl
theorem cellsF_take : ∀ {vs : List Value} {R : List Fl} (i : Nat), vs.length = R.length → (cellsF vs R).take (i * 3) = cellsF (vs.take i) (R.take i)
  | [], R, i, h => by simp [cellsF]
  | _ :: _, [], i, h => by simp at h
  | v :: vs, f :: R, 0, h => by simp [cellsF]
  | v :: vs, f :: R, i + 1, h => by
    have := cellsF_take (vs := vs) (R := R) i (by simpa using h)
    rw [show (i + 1) * 3 = i * 3 + 1 + 1 + 1 by omega]
    simp only [cellsF, List.take_succ_cons, this]
theorem cellsF_drop : ∀ {vs : List Value} {R : List Fl} (i : Nat), vs.length = R.length → (cellsF vs R).drop (i * 3) = cellsF (vs.drop i) (R.drop i)
  | [], R, i, h => by simp [cellsF]
  | _ :: _, [], i, h => by simp at h
  | v :: vs, f :: R, 0, h => by simp [cellsF]
  | v :: vs, f :: R, i + 1, h => by
    have := cellsF_drop (vs := vs) (R := R) i (by simpa using h)
    rw [show (i + 1) * 3 = i * 3 + 1 + 1 + 1 by omega]
    simp only [cellsF, List.drop_succ_cons, this]
theorem cellsF_app : ∀ {vs us : List Value} {R T : List Fl}, vs.length = R.length → cellsF vs R ++ cellsF us T = cellsF (vs ++ us) (R ++ T)
  | [], us, [], T, h => by simp [cellsF]
  | [], us, _ :: _, T, h => by simp at h
  | _ :: _, us, [], T, h => by simp at h
  | v :: vs, us, f :: R, T, h => by
    have := cellsF_app (vs := vs) (us := us) (R := R) (T := T) (by simpa using h)
    simp only [cellsF, List.cons_append, this]
theorem cellsF_one : ∀ {vs : List Value} {R : List Fl}, (∀ (i : Nat) (f : Fl), R[i]? = some f → ∀ v, vs[i]? = some v → v.oneCell' = true) → ∀ x ∈ cellsF vs R, x.oneCell' = true
  | [], R, h, x, hx => by simp [cellsF] at hx
  | _ :: _, [], h, x, hx => by simp [cellsF] at hx
  | v :: vs, f :: R, h, x, hx => by
    simp only [cellsF, List.mem_cons] at hx
    rcases hx with rfl | rfl | rfl | hx
    · rfl
    · exact h 0 f rfl _ rfl
    · rfl
    · exact cellsF_one (vs := vs) (R := R) (fun i g hg v hv => h (i + 1) g (by simpa using hg) v (by simpa using hv)) x hx
section
variable {W w : World} {p m : Nat} {d : Dk} {X L : List Asn} {n : List UInt8} {A C D : Asn}
theorem els_one {vs : List Value} {R : List Fl} (h : St W w (aEls vs R :: X)) : ∀ (i : Nat) (f : Fl), R[i]? = some f → ∀ v, vs[i]? = some v → v.oneCell' = true := by
  intro i f hf v hv
  obtain ⟨A, c, rfl⟩ := (els_bs h hf hv).rd.slice
  rfl
theorem Rd.cutTo3 {A : Option Addr} {N c : Nat} {xs : List Value} (h : Rd w (.slice A N c) N 3 xs) (k : Nat) (hk : k ≤ N) : (∀ w' : World, (Instr.slice 87 (.slice A N c) none (some (.int .i64 (k : Int))) none).run Tryz.prog w' = .ok (.slice A k c) w') ∧ (∀ w' : World, (Instr.sliceAt 87 (.slice A N c) none (some (.int .i64 (k : Int))) none).run Tryz.prog w' = .ok (.slice A k c) w') ∧
    Rd w (.slice A k c) k 3 (xs.take (k * 3)) := by
  obtain ⟨hl, A', c', he, hn, hc, hr⟩ := h
  injection he with e1 e2 e3
  subst e1 e3
  have hs : ∀ w' : World, (Instr.slice 87 (.slice A N c) none (some (.int .i64 (k : Int))) none).run Tryz.prog w' = .ok (.slice A k c) w' := fun w' => by
    rw [run_slice_h (P := Tryz.prog) (w := w') (t := 87) (a := A) (len := N) (cap := c) (by rw [elemF]; exact Tryz.underlying87) .i64 (k : Int) (by omega) (by omega), elemF, sizeF]
    simp [Result.andThen, sliced, Addr.add]
  refine ⟨hs, fun w' => ?_, by rw [List.length_take]; omega, _, _, rfl, fun e => ?_, by omega, fun ad had => ?_⟩
  · rw [run_sliceAt_slice (P := Tryz.prog) (w := w') (t := 87) (h := by rw [elemF]; exact Tryz.underlying87)]
    exact hs w'
  · obtain ⟨h7, rfl⟩ := hn e
    exact ⟨by omega, rfl⟩
  · obtain ⟨h1, h2⟩ := hr ad had
    refine ⟨fun hne => h1 (by omega), fun j u hu => h2 j u ?_⟩
    rw [List.getElem?_take] at hu
    split at hu
    · exact hu
    · cases hu
theorem Rd.cut3 {A : Option Addr} {N c : Nat} {xs : List Value} (h : Rd w (.slice A N c) N 3 xs) (k : Nat) (hk : k ≤ N) : ∃ A2 c2, (∀ w' : World, (Instr.slice 87 (.slice A N c) (some (.int .i64 (k : Int))) none none).run Tryz.prog w' = .ok (.slice A2 (N - k) c2) w') ∧ (∀ w' : World, (Instr.sliceAt 87 (.slice A N c) (some (.int .i64 (k : Int))) none none).run Tryz.prog w' = .ok (.slice A2 (N - k) c2) w') ∧
    Rd w (.slice A2 (N - k) c2) (N - k) 3 (xs.drop (k * 3)) := by
  obtain ⟨hl, A', c', he, hn, hc, hr⟩ := h
  injection he with e1 e2 e3
  subst e1 e3
  have hs : ∀ w' : World, (Instr.slice 87 (.slice A N c) (some (.int .i64 (k : Int))) none none).run Tryz.prog w' = .ok (.slice (if c = k then A else A.map (·.add (k * 3))) (N - k) (c - k)) w' := fun w' => by
    rw [run_slice_l (P := Tryz.prog) (w := w') (t := 87) (a := A) (len := N) (cap := c) (by rw [elemF]; exact Tryz.underlying87) .i64 (k : Int) (by omega) (by omega), elemF, sizeF]
    simp [Result.andThen, sliced]
  refine ⟨_, _, hs, fun w' => ?_, by rw [List.length_drop, hl, Nat.sub_mul], _, _, rfl, fun e => ?_, by omega, fun ad had => ?_⟩
  · rw [run_sliceAt_slice (P := Tryz.prog) (w := w') (t := 87) (h := by rw [elemF]; exact Tryz.underlying87)]
    exact hs w'
  · by_cases e1 : c = k
    · exact ⟨by omega, by omega⟩
    · rw [if_neg e1] at e
      cases A with
      | none => obtain ⟨rfl, rfl⟩ := hn rfl; exact ⟨by omega, by omega⟩
      | some a => simp at e
  · by_cases e1 : c = k
    · refine ⟨fun h => by omega, fun j u hu => ?_⟩
      rw [List.getElem?_eq_none (by rw [List.length_drop, hl]; omega)] at hu; cases hu
    · rw [if_neg e1] at had
      cases A with
      | none => simp at had
      | some a =>
        simp at had
        subst had
        obtain ⟨h1, h2⟩ := hr a rfl
        refine ⟨fun hne => by rw [block_of_add]; exact h1 (by omega), fun j u hu => ?_⟩
        rw [add_of_add]
        rw [List.getElem?_drop] at hu
        exact h2 _ u hu
theorem els_sub {own : Nat → Prop} {vs vs' : List Value} {R R' : List Fl} (h : (aEls vs R).at_ own w) (σ : Nat → Nat) (hs : ∀ (i : Nat) (f : Fl), R'[i]? = some f → R[σ i]? = some f ∧ vs[σ i]? = vs'[i]?) (hσ : ∀ i j, σ i = σ j → i = j) : (aEls vs' R').at_ own w := by
  refine ⟨fun i f hf => ?_, apart_of h.2 σ (fun i g ⟨f, v, k1, k2, k3, k4⟩ => ⟨f, v, (hs i f k1).1, (hs i f k1).2.trans k2, k3, k4⟩) (fun i j g _ _ e => hσ i j e)⟩
  obtain ⟨h1, h2⟩ := hs i f hf
  obtain ⟨v, k1, k2⟩ := h.1 _ f h1
  exact ⟨v, by rw [← h2]; exact k1, k2⟩
theorem St.rowRd {e : TypeId} {sz k : Nat} {v : Value} {xs : List Value} (h : St W w (aRow e sz v k xs :: X)) : Rd w v k sz xs := by
  obtain ⟨own, hr, _⟩ := h.get
  exact Rd.of_own hr.1
theorem drop_at {α : Type} {R : List α} {i j : Nat} {f : α} (h : (R.take i ++ R.drop (i + 1))[j]? = some f) (hi : i < R.length) : R[if j < i then j else j + 1]? = some f := by
  have hl : (R.take i).length = i := by rw [List.length_take]; omega
  by_cases e : j < i
  · rw [if_pos e]
    rw [List.getElem?_append_left (by omega), List.getElem?_take, if_pos e] at h
    exact h
  · rw [if_neg e]
    rw [List.getElem?_append_right (by omega), List.getElem?_drop, hl] at h
    rw [show j + 1 = i + 1 + (j - i) by omega]
    exact h
theorem drop_eq {α : Type} {R : List α} {i j : Nat} (hi : i < R.length) : (R.take i ++ R.drop (i + 1))[j]? = R[if j < i then j else j + 1]? := by
  have hl : (R.take i).length = i := by rw [List.length_take]; omega
  by_cases e : j < i
  · rw [if_pos e, List.getElem?_append_left (by omega), List.getElem?_take, if_pos e]
  · rw [if_neg e, List.getElem?_append_right (by omega), List.getElem?_drop, hl, show i + 1 + (j - i) = j + 1 by omega]
/-- the i-th file's bytes by themselves -/
theorem Sep.split_ {U own1 own2 : Nat → Prop} {A : Asn} (h : Sep w U (A :: L)) (hs : ∀ own, (∀ b, own b → U b ∧ b < w.heap.size) → A.at_ own w → C.at_ (fun b => own b ∧ own1 b) w ∧ D.at_ (fun b => own b ∧ ¬ own1 b) w) : Sep w U (C :: D :: L) := by
  obtain ⟨own, h1, h2, h3⟩ := h
  obtain ⟨k1, k2⟩ := hs own h1 h2
  refine ⟨fun b => own b ∧ own1 b, fun b hb => h1 b hb.1, k1, fun b => own b ∧ ¬ own1 b, fun b hb => ⟨⟨(h1 b hb.1).1, fun e => hb.2 e.2⟩, (h1 b hb.1).2⟩, k2, h3.mono fun b _ hb => ⟨⟨hb.1, fun e => hb.2 e.1⟩, fun e => hb.2 e.1⟩⟩
theorem els_take {vs : List Value} {R : List Fl} {i : Nat} {f : Fl} {v : Value} (h : St W w (aEls vs R :: X)) (hl : vs.length = R.length) (hf : R[i]? = some f) (hv : vs[i]? = some v) : St W w (aBs v f.b :: aEls (vs.take i ++ vs.drop (i + 1)) (R.take i ++ R.drop (i + 1)) :: X) := by
  have hi := at_lt hf
  refine ⟨h.1, h.2.split_ (own1 := fun b => f.b ≠ [] ∧ v.ownBlock = some b) (own2 := fun _ => False) fun own _ ha => ?_⟩
  obtain ⟨u, k1, k2, k3⟩ := ha.1 i f hf
  rw [hv] at k1
  obtain rfl := Option.some.inj k1
  refine ⟨⟨k2, fun g hg hne => ⟨k3 g hg hne, hne, hg⟩⟩, ?_⟩
  have h2 := els_sub (vs' := vs.take i ++ vs.drop (i + 1)) (R' := R.take i ++ R.drop (i + 1)) ha (fun j => if j < i then j else j + 1) (fun j x hx => ⟨drop_at hx hi, (drop_eq (by omega)).symm⟩) (fun a b e => by
    by_cases q1 : a < i <;> by_cases q2 : b < i <;> simp only [q1, q2, if_true, if_false] at e <;> omega)
  refine ⟨fun j x hx => ?_, h2.2⟩
  obtain ⟨y, z1, z2, z3⟩ := h2.1 j x hx
  refine ⟨y, z1, z2, fun g hg hne => ⟨z3 g hg hne, fun e => ?_⟩⟩
  have a1 : inB vs R (if j < i then j else j + 1) g := ⟨x, y, drop_at hx hi, (drop_eq (by omega)).symm.trans z1, hne, hg⟩
  have a2 : inB vs R i g := ⟨f, v, hf, hv, e.1, e.2⟩
  have := ha.2 _ _ _ a1 a2
  split at this <;> omega
set_option maxRecDepth 20000 in
set_option maxHeartbeats 2000000 in
theorem rremove_k {A : Option Addr} {c : Nat} {vs : List Value} (h1 : d.ok) (h2 : vs.length = d.R.length)
    (h3 : St W w (aBlk p 89 #[.slice A d.R.length c, .int .i64 d.room, .bool d.off] :: aRow 147 3 (.slice A d.R.length c) d.R.length (cellsF vs d.R) :: aEls vs d.R :: X)) :
    Calls Tryz.prog 96 #[.pointer (some ⟨p, 0, none⟩), .string (bstr n)] w fun e w' => e = .returned (.int .i64 (removeF d n).1) ∧ ∃ G : List Asn, St W w' (G ++ aRdk p (removeF d n).2 :: X) ∧ ∀ (i : Nat) (f : Fl) (v : Value), (mayF d n).1 = some i → d.R[i]? = some f → vs[i]? = some v → G = [aBs v f.b] := by
  have h : St W w (aRdk p d :: X) := aRdk.shut (v := .slice A d.R.length c) h1 h2 h3
  have H0 := Lib.hid h
  cases hm : mayF d n with
  | mk o er =>
  cases o with
  | none =>
    have hf : removeF d n = (er, d) := by unfold removeF; rw [hm]
    have HF := Lib.hid (rmay_no h hm)
    have q1 : (er != 0) = true := by simpa using may_none hm
    rw [hf]
    clear h h1 h2 h3 hm hf
    go_enter Tryz.func96, Tryz.ntmps96
    go_wp2_with (first | (go_at_call 104; (with_reducible refine HF.out.mono ?_); rintro e w1 ⟨rfl, rfl⟩))
    go_ret
    exact ⟨rfl, [], H0.out, fun i f v e => by cases e⟩
  | some i =>
    obtain ⟨_, _, f, hd, hnm⟩ := may_some hm
    clear hnm
    obtain ⟨v0, hv0⟩ : ∃ v, vs[i]? = some v := ⟨_, List.getElem?_eq_getElem (by have := at_lt hd; omega)⟩
    have HU := Lib.hid (fun (j : Nat) (f' : Fl) (v' : Value) (e : some i = some j) (hf' : d.R[j]? = some f') (hv' : vs[j]? = some v') => (show [aBs v0 f.b] = [aBs v' f'.b] from by
      obtain rfl := Option.some.inj e
      rw [hd] at hf'; rw [hv0] at hv'
      rw [Option.some.inj hf', Option.some.inj hv']))
    have hf : removeF d n = (0, { d with R := d.R.take i ++ d.R.drop (i + 1) }) := by unfold removeF; rw [hm]
    have hok := remove_ok h1 n
    rw [hf] at hok ⊢
    have HF := Lib.hid (rmay_yes h hm)
    have hil := at_lt hd
    have c0 := (aBlk.get h3).cell 0
    simp at c0
    have hmany := h1.many
    have hrd := St.rowRd h3.swap
    obtain ⟨s1, s2, KA⟩ := hrd.cutTo3 i (by omega)
    obtain ⟨A2, c2, s3, s4, KB⟩ := hrd.cut3 (i + 1) (by omega)
    rw [show ((i + 1 : Nat) : Int) = (i : Int) + 1 by omega] at s3 s4
    have KAH := Lib.hid KA
    have hone := cellsF_one (els_one h3.drop.drop)
    have o1 : ∀ x ∈ (cellsF vs d.R).take (i * 3), x.oneCell' = true := fun x hx => hone x (List.mem_of_mem_take hx)
    have o2 : ∀ x ∈ (cellsF vs d.R).drop ((i + 1) * 3), x.oneCell' = true := fun x hx => hone x (List.mem_of_mem_drop hx)
    have hrl : ({ d with R := d.R.take i ++ d.R.drop (i + 1) } : Dk).R.length = i + (d.R.length - (i + 1)) := by simp; omega
    have hcc : (cellsF vs d.R).take (i * 3) ++ (cellsF vs d.R).drop ((i + 1) * 3) = cellsF (vs.take i ++ vs.drop (i + 1)) (d.R.take i ++ d.R.drop (i + 1)) := by
      rw [cellsF_take i h2, cellsF_drop (i + 1) h2]
      exact cellsF_app (by simp [h2])
    have HB := Lib.hid (fun (w' : World) (Y : Asn) (hS : St W w' (Y :: aBlk p 89 #[.slice A d.R.length c, .int .i64 d.room, .bool d.off] :: aRow 147 3 (.slice A d.R.length c) d.R.length (cellsF vs d.R) :: aEls vs d.R :: X)) =>
      show w'.cell? ⟨p, 0, none⟩ = some (.slice A d.R.length c) ∧ w'.frozen? ⟨p, 0, none⟩ = false ∧ Rd w' (.slice A2 (d.R.length - (i + 1)) c2) (d.R.length - (i + 1)) 3 ((cellsF vs d.R).drop ((i + 1) * 3)) from by
      have a1 := (aBlk.get hS.drop).cell 0
      simp at a1
      refine ⟨a1, (aBlk.get hS.drop).frozen 0, ?_⟩
      obtain ⟨A3, c3, t3, t4, t5⟩ := (St.rowRd hS.drop.drop).cut3 (i + 1) (by omega)
      rw [show ((i + 1 : Nat) : Int) = (i : Int) + 1 by omega] at t3
      have e1 := (t3 w').symm.trans (s3 w')
      injection e1 with e1
      injection e1 with e2 e3 e4
      subst e2 e4
      exact t5)
    have HK := Lib.hid (fun (w' : World) (A' : Option Addr) (c' : Nat) (hS : St W w' (aRow 147 3 (.slice A' (i + (d.R.length - (i + 1))) c') (i + (d.R.length - (i + 1))) ((cellsF vs d.R).take (i * 3) ++ (cellsF vs d.R).drop ((i + 1) * 3)) :: aBlk p 89 #[.slice A d.R.length c, .int .i64 d.room, .bool d.off] :: aRow 147 3 (.slice A d.R.length c) d.R.length (cellsF vs d.R) :: aEls vs d.R :: X)) =>
      show St W (w'.setCell ⟨p, 0, none⟩ (.slice A' (i + (d.R.length - (i + 1))) c')) ([aBs v0 f.b] ++ aRdk p { d with R := d.R.take i ++ d.R.drop (i + 1) } :: X) from by
      rw [hcc] at hS
      have a1 := aBlk.set hS.swap 0 (.slice A' (i + (d.R.length - (i + 1))) c')
      have a2 := (a1.rot3.drop.rot3 : St W _ (aEls vs d.R :: _))
      have a3 := els_take a2 h2 hd hv0
      have a4 := (a3.swap.perm (((List.Perm.cons _ (List.Perm.swap _ _ _)).trans (List.Perm.swap _ _ _)).trans (List.Perm.cons _ ((List.Perm.cons _ (List.Perm.swap _ _ _)).trans (List.Perm.swap _ _ _)))) : St W _ (aBlk p 89 _ :: aRow 147 3 _ _ _ :: aEls _ _ :: aBs v0 f.b :: X))
      have e1 : (vs.take i ++ vs.drop (i + 1)).length = (d.R.take i ++ d.R.drop (i + 1)).length := by simp [h2]
      refine (aRdk.shut (d := { d with R := d.R.take i ++ d.R.drop (i + 1) }) (v := .slice A' (i + (d.R.length - (i + 1))) c') (vs := vs.take i ++ vs.drop (i + 1)) hok e1 ?_).swap
      rw [hrl]
      exact a4)
    have HS0 := Lib.hid (h3.rowNil 147 3)
    have g1 : 0 + i ≤ maxLen := by unfold maxLen; omega
    have g2 : (0 + i) * 48 ≤ 140737488355328 := by omega
    have g3 : i + (d.R.length - (i + 1)) ≤ maxLen := by unfold maxLen; omega
    have g4 : (i + (d.R.length - (i + 1))) * 48 ≤ 140737488355328 := by omega
    have hil : (i : Int) < (d.R.length : Int) := by omega
    have hil2 : (i : Int) + 1 ≤ (d.R.length : Int) := by omega
    have hi64 : (i : Int) ≤ 64 := by omega
    generalize d.R.length = N at *
    clear h h1 h2 h3 hm hf hd hok hrd KA KB hone hrl hcc hv0
    go_enter Tryz.func96, Tryz.ntmps96
    go_wp2_with (first
      | (go_at_call 104; (with_reducible refine HF.out.mono ?_); rintro e w1 ⟨rfl, rfl⟩)
      | (at_builtin; refine wpList_append_St rfl (.tmp 17) (.tmp 23) 87 rfl Tryz.underlying87 infoF rfl (by decide) rfl rfl HS0.out KAH.out o1 g1 g2 ?_; intro A3 c3 w3 hS; simp only [Nat.zero_add, List.nil_append] at hS; simp only [Nat.zero_add]; obtain ⟨z0, z1, z2⟩ := HB.out _ _ hS; have H3 := Lib.hid hS; have Z2 := Lib.hid z2; clear hS z2 c0)
      | (at_builtin; refine wpList_append_St rfl (.tmp 26) (.tmp 33) 87 rfl Tryz.underlying87 infoF rfl (by decide) rfl rfl H3.out Z2.out o2 g3 g4 ?_; intro A4 c4 w4 hS; clear z0 z1; obtain ⟨z0, z1, z2⟩ := HB.out _ _ hS; have H4 := Lib.hid hS; clear hS z2))
    go_ret
    exact ⟨rfl, _, HK.out _ _ _ H4.out, HU.out⟩
theorem St.dropL {G : List Asn} (h : St W w (G ++ L)) : St W w L := by
  induction G with
  | nil => exact h
  | cons A G ih => exact ih h.drop
theorem rremove_c (h : St W w (aRdk p d :: X)) : Calls Tryz.prog 96 #[.pointer (some ⟨p, 0, none⟩), .string (bstr n)] w fun e w' => e = .returned (.int .i64 (removeF d n).1) ∧ St W w' (aRdk p (removeF d n).2 :: X) := by
  obtain ⟨A, c, vs, h1, h2, h3⟩ := aRdk.open_ h
  exact (rremove_k h1 h2 h3).mono fun e w' ⟨a, G, b, _⟩ => ⟨a, b.dropL⟩
end
end Go.Proofs.YtnpjfjgnhadmjaaGreatDoor

/- The reference's disk: Create. -/
namespace Go.Proofs.YtnpjfjgnhadmjaaGreatDoor
open Go.RowKit Go.Maps Go.Deep
set_option linter.unusedVariables false

theorem bl_eq : ∀ a b : List UInt8, Op.bytesLess a b = bytesBefore a b
  | [], [] => by simp [bytesBefore, Op.bytesLess]
  | [], _ :: _ => by simp [bytesBefore, Op.bytesLess]
  | _ :: _, [] => by simp [bytesBefore, Op.bytesLess]
  | a :: r, b :: s => by simp [bytesBefore, Op.bytesLess, bl_eq r s]
section
variable {W w : World} {p m : Nat} {d : Dk} {X L : List Asn} {n : List UInt8} {A C D : Asn}
theorem Rd.three (w : World) (x y z : Value) (t : TypeId) : Rd (w.alloc (.cells #[x, y, z] t)) (.slice (some ⟨w.heap.size, 0, none⟩) 1 1) 1 3 [x, y, z] := by
  refine ⟨rfl, _, _, rfl, fun e => (by cases e), Nat.le_refl _, fun ad had => ?_⟩
  cases had
  have hk := Blk.new w t #[x, y, z]
  refine ⟨fun _ => hk.lt, fun j u hu => ?_⟩
  have ea : (⟨w.heap.size, 0, none⟩ : Addr).add j = ⟨w.heap.size, j, none⟩ := by unfold Addr.add; split <;> simp_all
  rw [ea, hk.cell, ← hu]
  simp
theorem els_ins {own : Nat → Prop} {vs : List Value} {R : List Fl} {q : Nat} (h : (aEls vs R).at_ own w) (hl : vs.length = R.length) (hq : q ≤ R.length) (n : List UInt8) : (aEls (vs.take q ++ .slice none 0 0 :: vs.drop q) (R.take q ++ ⟨n, [], 0⟩ :: R.drop q)).at_ own w := by
  have e1 : (R.take q).length = q := by rw [List.length_take]; omega
  have e2 : (vs.take q).length = q := by rw [List.length_take]; omega
  refine ⟨fun j x hx => ?_, ?_⟩
  · rcases Nat.lt_trichotomy j q with hj | hj | hj
    · rw [List.getElem?_append_left (by omega), List.getElem?_take, if_pos hj] at hx
      obtain ⟨v, k1, k2⟩ := h.1 j x hx
      exact ⟨v, by rw [List.getElem?_append_left (by omega), List.getElem?_take, if_pos hj]; exact k1, k2⟩
    · subst hj
      rw [List.getElem?_append_right (by omega), e1, Nat.sub_self] at hx
      have := Option.some.inj hx
      subst this
      exact ⟨.slice none 0 0, by rw [List.getElem?_append_right (by omega), e2, Nat.sub_self]; rfl, Bs.nil w, fun g hg _ => by simp [Value.ownBlock] at hg⟩
    · obtain ⟨k, rfl⟩ : ∃ k, j = q + 1 + k := ⟨j - (q + 1), by omega⟩
      rw [List.getElem?_append_right (by omega), e1, show q + 1 + k - q = k + 1 by omega, List.getElem?_cons_succ, List.getElem?_drop] at hx
      obtain ⟨v, k1, k2⟩ := h.1 _ x hx
      exact ⟨v, by rw [List.getElem?_append_right (by omega), e2, show q + 1 + k - q = k + 1 by omega, List.getElem?_cons_succ, List.getElem?_drop]; exact k1, k2⟩
  · have key : ∀ j g, inB (vs.take q ++ .slice none 0 0 :: vs.drop q) (R.take q ++ ⟨n, [], 0⟩ :: R.drop q) j g → j ≠ q ∧ inB vs R (if j < q then j else j - 1) g := fun j g ⟨f, v, k1, k2, k3, k4⟩ => by
      rcases Nat.lt_trichotomy j q with hj | hj | hj
      · rw [List.getElem?_append_left (by omega), List.getElem?_take, if_pos hj] at k1 k2
        rw [if_pos hj]
        exact ⟨by omega, f, v, k1, k2, k3, k4⟩
      · subst hj
        rw [List.getElem?_append_right (by omega), e1, Nat.sub_self] at k1
        have := Option.some.inj k1
        subst this
        exact absurd rfl k3
      · obtain ⟨k, rfl⟩ : ∃ k, j = q + 1 + k := ⟨j - (q + 1), by omega⟩
        rw [List.getElem?_append_right (by omega), e1, show q + 1 + k - q = k + 1 by omega, List.getElem?_cons_succ, List.getElem?_drop] at k1
        rw [List.getElem?_append_right (by omega), e2, show q + 1 + k - q = k + 1 by omega, List.getElem?_cons_succ, List.getElem?_drop] at k2
        rw [if_neg (by omega), show q + 1 + k - 1 = q + k by omega]
        exact ⟨by omega, f, v, k1, k2, k3, k4⟩
    refine apart_of h.2 (fun j => if j < q then j else j - 1) (fun j g hj => (key j g hj).2) fun i j g a b e => ?_
    have := (key i g a).1
    have := (key j g b).1
    by_cases q1 : i < q <;> by_cases q2 : j < q <;> simp only [q1, q2, if_true, if_false] at e <;> omega
set_option maxRecDepth 20000 in
set_option maxHeartbeats 4000000 in
theorem rcreate_c (h : St W w (aRdk p d :: X)) : Calls Tryz.prog 92 #[.pointer (some ⟨p, 0, none⟩), .string (bstr n)] w fun e w' => e = .returned (.int .i64 (createF d n).1) ∧ St W w' (aRdk p (createF d n).2 :: X) := by
  have H0 := Lib.hid h
  have HA := Lib.hid (rat_c (n := n) h)
  obtain ⟨A, c, vs, h1, h2, h3⟩ := aRdk.open_ h
  have c0 := (aBlk.get h3).cell 0
  have c2 := (aBlk.get h3).cell 2
  simp at c0 c2
  have q0 := bstr_nil n
  cases ho : d.off with
  | true =>
    have hf : createF d n = (32, d) := by unfold createF; rw [if_pos ho]
    rw [hf]
    rw [ho] at c2
    clear h h1 h2 h3 ho hf
    go_enter Tryz.func92, Tryz.ntmps92
    go_wp2_with fail
    go_ret
    exact ⟨rfl, H0.out⟩
  | false =>
    have ho' : ¬ d.off = true := by rw [ho]; simp
    rw [ho] at c2
    by_cases q1 : n = []
    · have hf : createF d n = (1, d) := by unfold createF; rw [if_neg ho', if_pos q1]
      rw [hf]
      rw [decide_eq_true q1] at q0
      clear h h1 h2 h3 hf ho ho'
      subst q1
      go_enter Tryz.func92, Tryz.ntmps92
      go_wp2_with fail
      go_ret
      exact ⟨rfl, H0.out⟩
    · rw [decide_eq_false q1] at q0
      cases hi : ixF n d.R with
      | some i =>
        have hf : createF d n = (31, d) := by unfold createF; rw [if_neg ho', if_neg q1, if_pos (by rw [hi]; rfl)]
        have e3 : ixI n d.R = (i : Int) := by unfold ixI; rw [hi]
        rw [e3] at HA
        rw [hf]
        clear h h1 h2 h3 ho hf ho' q1 hi e3
        go_enter Tryz.func92, Tryz.ntmps92
        go_wp2_with (first | (go_at_call 115; (with_reducible refine HA.out.mono ?_); rintro e w1 ⟨rfl, rfl⟩))
        go_ret
        exact ⟨rfl, H0.out⟩
      | none =>
        have e3 : ixI n d.R = -1 := by unfold ixI; rw [hi]
        rw [e3] at HA
        by_cases q2 : 64 ≤ d.R.length
        · have hf : createF d n = (6, d) := by unfold createF; rw [if_neg ho', if_neg q1, if_neg (by rw [hi]; simp), if_pos q2]
          rw [hf]
          have he : d.R.length = 64 := by have := h1.many; omega
          rw [he] at c0
          clear h h1 h2 h3 ho hf ho' q1 hi e3 he q2
          go_enter Tryz.func92, Tryz.ntmps92
          go_wp2_with (first | (go_at_call 115; (with_reducible refine HA.out.mono ?_); rintro e w1 ⟨rfl, rfl⟩))
          go_ret
          exact ⟨rfl, H0.out⟩
        · have hok := create_ok h1 n
          obtain ⟨t, ht⟩ : ∃ t, posF n d.R = t := ⟨_, rfl⟩
          have hf : createF d n = (0, { d with R := d.R.take t ++ ⟨n, [], 0⟩ :: d.R.drop t }) := by unfold createF; rw [if_neg ho', if_neg q1, if_neg (by rw [hi]; simp), if_neg q2, ht]
          rw [hf] at hok ⊢
          have htl : t ≤ d.R.length := by rw [← ht]; exact posF_le n d.R
          have HF := Lib.hid (fun (i : Nat) (f : Fl) (hf : d.R[i]? = some f) => rd_facts h2 h3 hf)
          have HB1 := Lib.hid (fun (j : Nat) (f : Fl) (hj : j < t) (hf : d.R[j]? = some f) => (show Op.bytesLess (bstr f.nm).toList (bstr n).toList = true by rw [bstr_toList, bstr_toList, bl_eq]; exact posF_lt n d.R j f (by rw [ht]; exact hj) hf))
          have HB2 := Lib.hid (fun (f : Fl) (hf : d.R[t]? = some f) => (show Op.bytesLess (bstr f.nm).toList (bstr n).toList = false by rw [bstr_toList, bstr_toList, bl_eq]; exact posF_at n d.R f (by rw [ht]; exact hf)))
          have hrd := St.rowRd h3.swap
          obtain ⟨s1, s2, KA⟩ := hrd.cutTo3 t htl
          obtain ⟨A2, c2', s3, s4, KB⟩ := hrd.cut3 t htl
          have KAH := Lib.hid KA
          have hone := cellsF_one (els_one h3.drop.drop)
          have o1 : ∀ x ∈ (cellsF vs d.R).take (t * 3), x.oneCell' = true := fun x hx => hone x (List.mem_of_mem_take hx)
          have o2 : ∀ x ∈ (cellsF vs d.R).drop (t * 3), x.oneCell' = true := fun x hx => hone x (List.mem_of_mem_drop hx)
          have o3 : ∀ x ∈ [Value.string (bstr n), .slice none 0 0, .int .i64 0], x.oneCell' = true := by simp [Value.oneCell']
          have hrl : ({ d with R := d.R.take t ++ ⟨n, [], 0⟩ :: d.R.drop t } : Dk).R.length = t + 1 + (d.R.length - t) := by simp; omega
          have hcc : (cellsF vs d.R).take (t * 3) ++ [Value.string (bstr n), .slice none 0 0, .int .i64 0] ++ (cellsF vs d.R).drop (t * 3) = cellsF (vs.take t ++ .slice none 0 0 :: vs.drop t) (d.R.take t ++ ⟨n, [], 0⟩ :: d.R.drop t) := by
            rw [cellsF_take t h2, cellsF_drop t h2, List.append_assoc]
            exact cellsF_app (vs := vs.take t) (us := .slice none 0 0 :: vs.drop t) (R := d.R.take t) (T := ⟨n, [], 0⟩ :: d.R.drop t) (by simp [h2])
          have HB := Lib.hid (fun (w' : World) (Y : Asn) (hS : St W w' (Y :: aBlk p 89 #[.slice A d.R.length c, .int .i64 d.room, .bool d.off] :: aRow 147 3 (.slice A d.R.length c) d.R.length (cellsF vs d.R) :: aEls vs d.R :: X)) =>
            show w'.cell? ⟨p, 0, none⟩ = some (.slice A d.R.length c) ∧ w'.frozen? ⟨p, 0, none⟩ = false ∧ Rd w' (.slice A2 (d.R.length - t) c2') (d.R.length - t) 3 ((cellsF vs d.R).drop (t * 3)) from by
            have a1 := (aBlk.get hS.drop).cell 0
            simp at a1
            refine ⟨a1, (aBlk.get hS.drop).frozen 0, ?_⟩
            obtain ⟨A3, c3, t3, t4, t5⟩ := (St.rowRd hS.drop.drop).cut3 t htl
            have e1 := (t3 w').symm.trans (s3 w')
            injection e1 with e1
            injection e1 with e2 e3 e4
            subst e2 e4
            exact t5)
          have HK := Lib.hid (fun (w' : World) (A' : Option Addr) (c' : Nat) (hS : St W w' (aRow 147 3 (.slice A' (t + 1 + (d.R.length - t)) c') (t + 1 + (d.R.length - t)) ((cellsF vs d.R).take (t * 3) ++ [Value.string (bstr n), .slice none 0 0, .int .i64 0] ++ (cellsF vs d.R).drop (t * 3)) :: aBlk p 89 #[.slice A d.R.length c, .int .i64 d.room, .bool d.off] :: aRow 147 3 (.slice A d.R.length c) d.R.length (cellsF vs d.R) :: aEls vs d.R :: X)) =>
            show St W (w'.setCell ⟨p, 0, none⟩ (.slice A' (t + 1 + (d.R.length - t)) c')) (aRdk p { d with R := d.R.take t ++ ⟨n, [], 0⟩ :: d.R.drop t } :: X) from by
            rw [hcc] at hS
            have a1 := aBlk.set hS.swap 0 (.slice A' (t + 1 + (d.R.length - t)) c')
            have a2 := (a1.rot3.drop.rot3 : St W _ (aEls vs d.R :: _))
            have a3 := a2.conv (C := aEls (vs.take t ++ .slice none 0 0 :: vs.drop t) (d.R.take t ++ ⟨n, [], 0⟩ :: d.R.drop t)) (fun own ha => els_ins ha h2 htl n)
            refine aRdk.shut (v := .slice A' (t + 1 + (d.R.length - t)) c') (vs := vs.take t ++ .slice none 0 0 :: vs.drop t) hok (by simp [h2]) ?_
            rw [hrl]
            have a4 := a3.rot3.rot3
            exact a4)
          have HS0 := Lib.hid (show St W w (aRow 147 3 (.slice none 0 0) 0 [] :: aBlk p 89 #[.slice A d.R.length c, .int .i64 d.room, .bool d.off] :: aRow 147 3 (.slice A d.R.length c) d.R.length (cellsF vs d.R) :: aEls vs d.R :: X) from h3.rowNil 147 3)
          have g1 : 0 + t ≤ maxLen := by unfold maxLen; omega
          have g2 : (0 + t) * 48 ≤ 140737488355328 := by omega
          have g3 : t + 1 + (d.R.length - t) ≤ maxLen := by unfold maxLen; omega
          have g4 : (t + 1 + (d.R.length - t)) * 48 ≤ 140737488355328 := by omega
          have g5 : t + 1 ≤ maxLen := by unfold maxLen; omega
          have g6 : (t + 1) * 48 ≤ 140737488355328 := by omega
          have hNl : (d.R.length : Int) < 64 := by omega
          obtain ⟨N, hN⟩ : ∃ N, d.R.length = N := ⟨_, rfl⟩
          have HN := Lib.hid hN
          rw [hN] at HB HK HS0 g3 g4 hNl c0 s1 s2 s3 s4 htl
          have hti : (t : Int) ≤ (N : Int) := by omega
          clear h h1 h2 h3 ho hf ho' q1 hi e3 q2 hok hrd KA KB hone hrl hcc ht hN
          go_enter Tryz.func92, Tryz.ntmps92
          go_wp2_with (first | (go_at_call 115; (with_reducible refine HA.out.mono ?_); rintro e w1 ⟨rfl, rfl⟩))
          go_loop [5] (fun i => ∃ q : Nat, q ≤ t ∧ i = .int .i64 q) (fun i => t - (intOf i).toNat)
          case atStart => exact ⟨0, Nat.zero_le _, rfl⟩
          case round =>
            obtain ⟨q, hq, rfl⟩ := hrel
            by_cases hlt : q < t
            · have hqi : (q : Int) < N := by omega
              obtain ⟨f, hf⟩ : ∃ f, d.R[q]? = some f := ⟨_, List.getElem?_eq_getElem (by have := HN.out; omega)⟩
              obtain ⟨g, Ab, cb, rfl, _, _, k0, _, _⟩ := HF.out q f hf
              have hb := HB1.out q f hlt hf
              clear hf
              go_wp2_with fail
              go_round
              case rel => exact ⟨q + 1, by omega, by go_num⟩
              case measure => simp [intOf]; omega
            · obtain rfl : q = t := by omega
              by_cases hqn : q < N
              case' pos =>
                have hqi : (q : Int) < N := by omega
                obtain ⟨f, hf⟩ : ∃ f, d.R[q]? = some f := ⟨_, List.getElem?_eq_getElem (by have := HN.out; omega)⟩
                obtain ⟨g, Ab, cb, rfl, _, _, k0, _, _⟩ := HF.out q f hf
                have hb := HB2.out f hf
                clear hf
              case' neg =>
                have hqi : ¬ (q : Int) < N := by omega
              all_goals
                go_wp2_with (first
                  | (at_builtin; refine wpList_append_St rfl (.tmp 44) (.tmp 50) 87 rfl Tryz.underlying87 infoF rfl (by decide) rfl rfl HS0.out KAH.out o1 g1 g2 ?_; intro A3 c3 w3 hS; simp only [Nat.zero_add, List.nil_append] at hS; simp only [Nat.zero_add]; have H3 := Lib.hid hS; clear hS c0)
                  | (at_builtin; refine wpList_append_St rfl (.tmp 51) (.tmp 54) 87 rfl Tryz.underlying87 infoF rfl (by decide) rfl rfl (H3.out.later (B.alloc' _ _)) (Rd.three _ _ _ _ _) o3 g5 g6 ?_; intro A4 c4 w4 hS; obtain ⟨z0, z1, z2⟩ := HB.out _ _ hS; have H4 := Lib.hid hS; have Z2 := Lib.hid z2; clear hS z2)
                  | (at_builtin; refine wpList_append_St rfl (.tmp 57) (.tmp 63) 87 rfl Tryz.underlying87 infoF rfl (by decide) rfl rfl H4.out Z2.out o2 g3 g4 ?_; intro A5 c5 w5 hS; clear z0 z1; obtain ⟨z0, z1, z2⟩ := HB.out _ _ hS; have H5 := Lib.hid hS; clear hS z2))
                go_ret
                exact ⟨rfl, HK.out _ _ _ H5.out⟩
end
end Go.Proofs.YtnpjfjgnhadmjaaGreatDoor

/- slices.Equal over strings, bytes.HasPrefix. -/
namespace Go.Proofs.YtnpjfjgnhadmjaaGreatDoor
open Go.RowKit Go.Maps Go.Deep
set_option linter.unusedVariables false

section
variable {W w : World} {p m : Nat} {d : Dk} {X L : List Asn} {n to : List UInt8} {A C D : Asn}
theorem retB_ {a b : Bool} (h : a = b) : Ending.returned (.bool a) = Ending.returned (.bool b) := by rw [h]
set_option maxRecDepth 20000 in
set_option maxHeartbeats 2000000 in
theorem sequal_c {v u : Value} {xs ys : List (List UInt8)} (h : St W w (aStr v xs :: aStr u ys :: X)) (hx : xs.length ≤ 1000) (hy : ys.length ≤ 1000) : Calls Tryz.prog 60 #[v, u] w fun e w' => e = .returned (.bool (decide (xs = ys))) ∧ B w w' := by
  obtain ⟨A, c, rfl⟩ := (show St W w (aRow _ _ v _ _ :: _) from h).rowSlice
  obtain ⟨A', c', rfl⟩ := (show St W w (aRow _ _ u _ _ :: _) from h.swap).rowSlice
  by_cases hl : xs.length = ys.length
  · have q1 : ((xs.length : Int) != (ys.length : Int)) = false := by simp; omega
    have HS := Lib.hid h
    have HL := Lib.hid hl
    obtain ⟨N, hN⟩ : ∃ N, xs.length = N := ⟨_, rfl⟩
    have HN := Lib.hid hN
    have hN2 : ys.length = N := by omega
    have HF := Lib.hid (fun (q : Nat) (x y : List UInt8) (h1 : xs[q]? = some x) (h2 : ys[q]? = some y) => (show ∃ g g', A = some ⟨g, 0, none⟩ ∧ A' = some ⟨g', 0, none⟩ ∧ w.cell? ⟨g, q, none⟩ = some (.string (bstr x)) ∧ w.cell? ⟨g', q, none⟩ = some (.string (bstr y)) from by
      have hq : q < xs.length := by
        rcases Nat.lt_or_ge q xs.length with h' | h'
        · exact h'
        · rw [List.getElem?_eq_none h'] at h1; cases h1
      unfold aStr at h
      obtain ⟨g, rfl⟩ := h.rowSome (by omega)
      obtain ⟨g', rfl⟩ := h.swap.rowSome (by omega)
      exact ⟨g, g', rfl, rfl, h.rowAt (by simp [h1]), h.swap.rowAt (by simp [h2])⟩))
    rw [hN] at q1 ⊢
    rw [hN2] at q1 ⊢
    have hN3 : N ≤ 1000 := by omega
    clear h hl hx hy hN hN2
    go_enter Tryz.func60, Tryz.ntmps60
    go_wp2_with fail
    go_loopw [13] (fun i wr => ∃ q : Nat, q ≤ N ∧ i = .int .i64 q ∧ Hid (∀ j, j < q → xs[j]? = ys[j]?) ∧ Hid (B w wr)) (fun i _ => N - (intOf i).toNat)
    case atStart => exact ⟨0, Nat.zero_le _, rfl, fun j h => by omega, Below.refl _ _⟩
    case round =>
      obtain ⟨q, hq, rfl, HP, HB⟩ := hrel
      by_cases hlt : q < N
      · have h1 : q < xs.length := by have := HN.out; omega
        have h2 : q < ys.length := by have := HN.out; have := HL.out; omega
        obtain ⟨x, hx⟩ : ∃ x, xs[q]? = some x := ⟨_, List.getElem?_eq_getElem h1⟩
        obtain ⟨y, hy⟩ : ∃ y, ys[q]? = some y := ⟨_, List.getElem?_eq_getElem h2⟩
        obtain ⟨g, g', rfl, rfl, k1, k3⟩ := HF.out q x y hx hy
        have K1 := B.cell (show B w wr.drew from HB.out.drew) k1
        have K3 := B.cell (show B w wr.drew from HB.out.drew) k3
        have HX := Lib.hid hx
        have HY := Lib.hid hy
        have hqi : (q : Int) < N := by omega
        clear k1 k3 hx hy h1 h2
        by_cases e1 : x = y
        · have E := Lib.hid e1
          have g1 : ((bstr x).toList == (bstr y).toList) = true := by rw [bstr_toList, bstr_toList]; simpa using e1
          clear e1
          go_wp2_with fail
          go_region
          all_goals
            go_wp2_with fail
            go_roundw
            case rel => exact ⟨q + 1, by omega, by go_num, fun j hj => by
              by_cases e : j = q
              · rw [e, HX.out, HY.out, E.out]
              · exact HP.out j (by omega), HB.out.drew⟩
            case measure => simp [intOf]; omega
        · have g1 : ((bstr x).toList == (bstr y).toList) = false := by rw [bstr_toList, bstr_toList]; simpa using e1
          have E := Lib.hid (show decide (xs = ys) = false from decide_eq_false (fun e => e1 (by have h1 := HX.out; rw [e, HY.out] at h1; exact (Option.some.inj h1).symm)))
          clear e1
          go_wp2_with fail
          go_region
          all_goals
            go_wp2_with fail
            go_ret
            exact ⟨retB_ E.out.symm, HB.out.drew⟩
      · have E := Lib.hid (show decide (xs = ys) = true from decide_eq_true (List.ext_getElem? fun j => by
          by_cases hj : j < q
          · exact HP.out j hj
          · rw [List.getElem?_eq_none (by have := HN.out; omega), List.getElem?_eq_none (by have := HN.out; have := HL.out; omega)]))
        have hqi : ¬ (q : Int) < N := by omega
        go_wp2_with fail
        go_ret
        exact ⟨retB_ E.out.symm, HB.out⟩
  · have q1 : ((xs.length : Int) != (ys.length : Int)) = true := by simp; omega
    have E := Lib.hid (show decide (xs = ys) = false from decide_eq_false (fun e => hl (by rw [e])))
    clear hl h
    go_enter Tryz.func60, Tryz.ntmps60
    go_wp2
    go_ret
    exact ⟨retB_ E.out.symm, Below.refl _ _⟩
end
end Go.Proofs.YtnpjfjgnhadmjaaGreatDoor

/- A log's names: numbers as words at 1, a file's name, which names a log may have, the numbers of a disk without files. -/
namespace Go.Proofs.YtnpjfjgnhadmjaaGreatDoor
open Go.RowKit Go.Deep
set_option linter.unusedVariables false

set_option maxRecDepth 20000 in
theorem small1 (w : World) : Calls Tryz.prog 137 #[.int .i64 1] w fun e w' => e = .returned (.string ⟨#[49]⟩) ∧ w = w' := by
  go_enter Tryz.func137, Tryz.ntmps137
  go_wp2
  go_ret
  exact ⟨rfl, rfl⟩
set_option maxRecDepth 20000 in
theorem format1 (w : World) : Calls Tryz.prog 127 #[.int .i64 1, .int .i64 10] w fun e w' => e = .returned (.string ⟨#[49]⟩) ∧ w = w' := by
  have H := Lib.hid (small1 w)
  go_enter Tryz.func127, Tryz.ntmps127
  go_wp2_with (first | (go_at_call 137; (with_reducible refine H.out.mono ?_); rintro e w1 ⟨rfl, rfl⟩))
  go_ret
  exact ⟨rfl, rfl⟩
theorem iitoa1 (w : World) : Calls Tryz.prog 111 #[.int .i64 1] w fun e w' => e = .returned (.string ⟨#[49]⟩) ∧ w = w' := by
  have H := Lib.hid (format1 w)
  go_enter Tryz.func111, Tryz.ntmps111
  go_wp2_with (first | (go_at_call 127; (with_reducible refine H.out.mono ?_); rintro e w1 ⟨rfl, rfl⟩))
  go_ret
  exact ⟨rfl, rfl⟩
theorem itoa1 (w : World) : Calls Tryz.prog 87 #[.int .i64 1] w fun e w' => e = .returned (.string ⟨#[49]⟩) ∧ w = w' := by
  have H := Lib.hid (iitoa1 w)
  go_enter Tryz.func87, Tryz.ntmps87
  go_wp2_with (first | (go_at_call 111; (with_reducible refine H.out.mono ?_); rintro e w1 ⟨rfl, rfl⟩))
  go_ret
  exact ⟨rfl, rfl⟩
/-- the first file's name -/
def file1 (n : List UInt8) : List UInt8 := n ++ [46, 49]
theorem bstr_add (a b : List UInt8) : bstr a ++ bstr b = bstr (a ++ b) := by
  apply ByteArray.ext
  simp [bstr]
theorem file1_eq (n : List UInt8) : bstr n ++ ⟨#[46]⟩ ++ ⟨#[49]⟩ = bstr (file1 n) := by
  rw [show (⟨#[46]⟩ : ByteArray) = bstr [46] from rfl, show (⟨#[49]⟩ : ByteArray) = bstr [49] from rfl, bstr_add, bstr_add]
  simp [file1]
theorem bstr_size (n : List UInt8) : (bstr n).size = n.length := by simp [bstr, ByteArray.size]
theorem file_c (w : World) {n : List UInt8} (hn : n.length ≤ 4194304000) : Calls Tryz.prog 67 #[.string (bstr n), .int .i64 1] w fun e w' => e = .returned (.string (bstr (file1 n))) ∧ w = w' := by
  have H := Lib.hid (itoa1 w)
  have q1 : ¬ 9223372036854775807 < (bstr n).size + 1 := by rw [bstr_size]; omega
  have q2 : ¬ 9223372036854775807 < (bstr n).size + 1 + 1 := by rw [bstr_size]; omega
  have E := Lib.hid (file1_eq n)
  go_enter Tryz.func67, Tryz.ntmps67
  go_wp2_with (first | (go_at_call 87; (with_reducible refine H.out.mono ?_); rintro e w1 ⟨rfl, rfl⟩))
  go_ret
  exact ⟨by rw [← E.out]; rfl, rfl⟩
theorem bytesWorld_B (w : World) (e : TypeId) (s : ByteArray) : B w (Lib.bytesWorld w e s) :=
  ⟨rfl, rfl, rfl, by rw [Lib.bytesWorld_size]; omega, fun j hj => Lib.bytesWorld_at_old w e s j hj⟩
def goodC (c : UInt8) : Bool := decide (97 ≤ c.toNat) && decide (c.toNat ≤ 122)
/-- which names and sizes a log may have -/
def mayN (n : List UInt8) (m : Int) : Bool := decide (1 ≤ n.length ∧ n.length ≤ 16 ∧ 64 ≤ m ∧ m ≤ 4194304) && n.all goodC
theorem all_take {n : List UInt8} {q : Nat} (h : q < n.length) (ha : (n.take q).all goodC = true) (hc : goodC n[q] = true) : (n.take (q + 1)).all goodC = true := by
  rw [List.take_succ_eq_append_getElem h, List.all_append, ha]
  simp [hc]
theorem not_all {n : List UInt8} {q : Nat} (h : q < n.length) (hc : goodC n[q] = false) : n.all goodC = false := by
  rw [List.all_eq_false]
  exact ⟨n[q], List.getElem_mem h, by rw [hc]; simp⟩
set_option maxRecDepth 20000 in
set_option maxHeartbeats 4000000 in
theorem may_c (w : World) {n : List UInt8} {m : Int} : Calls Tryz.prog 52 #[.string (bstr n), .int .i64 m] w fun e w' => e = .returned (.bool (mayN n m)) ∧ B w w' := by
  have hsz := bstr_size n
  by_cases h1 : 1 ≤ n.length ∧ n.length ≤ 16 ∧ 64 ≤ m ∧ m ≤ 4194304
  · obtain ⟨a1, a2, a3, a4⟩ := h1
    have HM := Lib.hid (show mayN n m = n.all goodC by unfold mayN; rw [decide_eq_true ⟨a1, a2, a3, a4⟩]; rfl)
    have hrun := Lib.run_convert_string_bytes (P := Tryz.prog) w 9 22 5 (bstr n) Tryz.underlying9 Tryz.underlying22 Tryz.underlying5
    obtain ⟨S, hS⟩ : ∃ S, n.length = S := ⟨_, rfl⟩
    have b1 : ¬ (S : Int) < 1 := by omega
    have b2 : ¬ (16 : Int) < (S : Int) := by omega
    have b3 : ¬ m < 64 := by omega
    have b4 : ¬ (4194304 : Int) < m := by omega
    have HS := Lib.hid hS
    have HSZ := Lib.hid hsz
    have HC := Lib.hid (fun (q : Nat) (hq : q < n.length) => (show (Lib.bytesWorld w 5 (bstr n)).cell? ⟨w.heap.size, q, none⟩ = some (.int .u8 (n[q].toNat : Int)) from by
      have := Lib.bytesWorld_cell w 5 (bstr n) q (by rw [hsz]; exact hq)
      rw [this]
      simp [bstr, hq]))
    have HB := Lib.hid (bytesWorld_B w 5 (bstr n))
    generalize Lib.bytesWorld w 5 (bstr n) = w1 at *
    rw [hsz, hS] at hrun
    rw [hS] at hsz
    generalize grownCap w S 0 5 = cp at *
    have hs16 : S ≤ 16 := by omega
    clear a1 a2 a3 a4 hS
    go_enter Tryz.func52, Tryz.ntmps52
    go_wp2_with fail
    go_loopw [26] (fun i wr => ∃ q : Nat, q ≤ S ∧ i = .int .i64 q ∧ Hid ((n.take q).all goodC = true) ∧ Hid (B w1 wr)) (fun i _ => S - (intOf i).toNat)
    case atStart => exact ⟨0, Nat.zero_le _, rfl, rfl, Below.refl _ _⟩
    case round =>
      obtain ⟨q, hq, rfl, HG, HW⟩ := hrel
      by_cases hlt : q < S
      · have hqi : (q : Int) < S := by omega
        have hql : q < n.length := by have := HS.out; omega
        have kx := HW.out.cell (HC.out q hql)
        have HT := Lib.hid (fun hc => all_take hql HG.out hc)
        have HF := Lib.hid (fun hc => not_all hql hc)
        generalize n[q] = c at *
        by_cases c1 : c.toNat < 97
        · have HZ := Lib.hid (HF.out (by unfold goodC; simp; omega))
          have d1 : ((c.toNat : Nat) : Int) < 97 := by omega
          clear hql c1
          go_wp2_with fail
          go_ret
          exact ⟨retB_ (by rw [HM.out, HZ.out]), HB.out.trans HW.out⟩
        · have d1 : ¬ ((c.toNat : Nat) : Int) < 97 := by omega
          by_cases c2 : 122 < c.toNat
          · have HZ := Lib.hid (HF.out (by unfold goodC; simp; omega))
            have d2 : (122 : Int) < ((c.toNat : Nat) : Int) := by omega
            clear hql c1 c2
            go_wp2_with fail
            go_ret
            exact ⟨retB_ (by rw [HM.out, HZ.out]), HB.out.trans HW.out⟩
          · have HZ := Lib.hid (HT.out (by unfold goodC; simp; omega))
            have d2 : ¬ (122 : Int) < ((c.toNat : Nat) : Int) := by omega
            clear hql c1 c2
            go_wp2_with fail
            go_roundw
            case rel => exact ⟨q + 1, by omega, by go_num, HZ.out, HW.out⟩
            case measure => simp [intOf]; omega
      · have hqe : q = S := by omega
        have hqi : ¬ (q : Int) < S := by omega
        have HZ := Lib.hid (show n.all goodC = true by have := HG.out; rw [List.take_of_length_le (by have := HS.out; omega)] at this; exact this)
        subst hqe
        go_wp2_with fail
        go_ret
        exact ⟨retB_ (by rw [HM.out, HZ.out]), HB.out.trans HW.out⟩
  · have HM := Lib.hid (show mayN n m = false by unfold mayN; rw [decide_eq_false h1]; rfl)
    obtain ⟨S, hS⟩ : ∃ S, n.length = S := ⟨_, rfl⟩
    rw [hS] at hsz h1
    by_cases b1 : S < 1
    · have d1 : (S : Int) < 1 := by omega
      clear h1 hS b1
      go_enter Tryz.func52, Tryz.ntmps52
      go_wp2_with fail
      go_ret
      exact ⟨retB_ (by rw [HM.out]), Below.refl _ _⟩
    · have d1 : ¬ (S : Int) < 1 := by omega
      by_cases b2 : 16 < S
      · have d2 : (16 : Int) < (S : Int) := by omega
        clear h1 hS b1 b2
        go_enter Tryz.func52, Tryz.ntmps52
        go_wp2_with fail
        go_ret
        exact ⟨retB_ (by rw [HM.out]), Below.refl _ _⟩
      · have d2 : ¬ (16 : Int) < (S : Int) := by omega
        by_cases b3 : m < 64
        · clear h1 hS b1 b2
          go_enter Tryz.func52, Tryz.ntmps52
          go_wp2_with fail
          go_ret
          exact ⟨retB_ (by rw [HM.out]), Below.refl _ _⟩
        · have d4 : (4194304 : Int) < m := by omega
          clear h1 hS b1 b2
          go_enter Tryz.func52, Tryz.ntmps52
          go_wp2_with fail
          go_ret
          exact ⟨retB_ (by rw [HM.out]), Below.refl _ _⟩
end Go.Proofs.YtnpjfjgnhadmjaaGreatDoor

/- strings.CutPrefix, strconv.Atoi at one digit; the numbers of a log on a disk with no file, or with the first file alone. -/
namespace Go.Proofs.YtnpjfjgnhadmjaaGreatDoor
open Go.RowKit Go.Deep
set_option linter.unusedVariables false

theorem ext_at (l : List UInt8) (a b : Nat) : (bstr l).extract a b = bstr ((l.take b).drop a) := by
  apply ByteArray.ext
  rw [ByteArray.data_extract]
  apply Array.toList_inj.1
  simp [bstr]
  try rw [List.drop_take]
theorem ext_pre (p s : List UInt8) : (bstr (p ++ s)).extract 0 p.length = bstr p := by
  rw [ext_at]; simp
theorem ext_suf (p s : List UInt8) : (bstr (p ++ s)).extract p.length (p ++ s).length = bstr s := by
  rw [ext_at, List.take_length]; simp
set_option maxRecDepth 20000 in
set_option maxHeartbeats 2000000 in
theorem hasPre_c (w : World) {p s : List UInt8} (hl : (p ++ s).length ≤ 4194304000) : Calls Tryz.prog 121 #[.string (bstr (p ++ s)), .string (bstr p)] w fun e w' => e = .returned (.bool true) ∧ w = w' := by
  have h1 := bstr_size (p ++ s)
  have h2 := bstr_size p
  have hle : ((p.length : Nat) : Int) ≤ (((p ++ s).length : Nat) : Int) := by simp; omega
  have hle2 : (((p ++ s).length : Nat) : Int) ≤ 4194304000 := by omega
  have h3 := ext_pre p s
  obtain ⟨P, hP⟩ : ∃ P, p.length = P := ⟨_, rfl⟩
  obtain ⟨S, hS⟩ : ∃ S, (p ++ s).length = S := ⟨_, rfl⟩
  rw [hP] at h2 hle h3
  rw [hS] at h1 hle hle2
  clear hl
  go_enter Tryz.func121, Tryz.ntmps121
  go_wp2_with fail
  go_ret
  exact ⟨by simp, rfl⟩
set_option maxRecDepth 20000 in
set_option maxHeartbeats 2000000 in
theorem icut_c (w : World) {p s : List UInt8} (hl : (p ++ s).length ≤ 4194304000) : Calls Tryz.prog 108 #[.string (bstr (p ++ s)), .string (bstr p)] w fun e w' => e = .returned (.tuple #[.string (bstr s), .bool true]) ∧ w = w' := by
  have H := Lib.hid (hasPre_c w hl)
  have h1 := bstr_size (p ++ s)
  have h2 := bstr_size p
  have hle : ((p.length : Nat) : Int) ≤ (((p ++ s).length : Nat) : Int) := by simp; omega
  have hle2 : (((p ++ s).length : Nat) : Int) ≤ 4194304000 := by omega
  have h3 := ext_suf p s
  obtain ⟨P, hP⟩ : ∃ P, p.length = P := ⟨_, rfl⟩
  obtain ⟨S, hS⟩ : ∃ S, (p ++ s).length = S := ⟨_, rfl⟩
  rw [hP] at h2 hle h3
  rw [hS] at h1 hle hle2 h3
  clear hl
  go_enter Tryz.func108, Tryz.ntmps108
  go_wp2_with (first | (go_at_call 121; (with_reducible refine H.out.mono ?_); rintro e w1 ⟨rfl, rfl⟩))
  go_ret2
  exact ⟨rfl, rfl⟩
theorem cut_c (w : World) {p s : List UInt8} (hl : (p ++ s).length ≤ 4194304000) : Calls Tryz.prog 85 #[.string (bstr (p ++ s)), .string (bstr p)] w fun e w' => e = .returned (.tuple #[.string (bstr s), .bool true]) ∧ w = w' := by
  have H := Lib.hid (icut_c w hl)
  clear hl
  go_enter Tryz.func85, Tryz.ntmps85
  go_wp2_with (first | (go_at_call 108; (with_reducible refine H.out.mono ?_); rintro e w1 ⟨rfl, rfl⟩))
  go_ret2
  exact ⟨rfl, rfl⟩
set_option maxRecDepth 20000 in
set_option maxHeartbeats 2000000 in
theorem iatoi1 (w : World) : Calls Tryz.prog 109 #[.string ⟨#[49]⟩] w fun e w' => e = .returned (.tuple #[.int .i64 1, .nilIface]) ∧ B w w' := by
  have hrun := Lib.run_convert_string_bytes (P := Tryz.prog) w 9 22 5 ⟨#[49]⟩ Tryz.underlying9 Tryz.underlying22 Tryz.underlying5
  have k0 := Lib.bytesWorld_cell w 5 ⟨#[49]⟩ 0 (by decide)
  have HB := Lib.hid (bytesWorld_B w 5 ⟨#[49]⟩)
  rw [show (⟨#[49]⟩ : ByteArray).size = 1 from rfl] at hrun
  rw [show (ByteArray.mk #[49]).data.toList.getD 0 0 = 49 from rfl, show ((49 : UInt8).toNat : Int) = 49 from rfl] at k0
  generalize Lib.bytesWorld w 5 ⟨#[49]⟩ = w1 at *
  generalize grownCap w 1 0 5 = cp at *
  go_enter Tryz.func109, Tryz.ntmps109
  go_wp2_with fail
  go_loopw [6, 49] (fun n i wr => ∃ q : Nat, q ≤ 1 ∧ i = .int .i64 q ∧ n = .int .i64 q ∧ wr = w1) (fun _ i _ => 1 - (intOf i).toNat)
  case atStart => exact ⟨0, by omega, rfl, rfl, rfl⟩
  case round =>
    obtain ⟨q, hq, rfl, rfl, rfl⟩ := hrel
    have hq2 : q = 0 ∨ q = 1 := by omega
    rcases hq2 with rfl | rfl
    · go_wp2_with fail
      go_roundw
      case rel => exact ⟨1, by omega, by go_num, by go_num, trivial⟩
      case measure => simp [intOf]
    · go_wp2_with fail
      go_ret2
      exact ⟨rfl, HB.out⟩
theorem atoi1 (w : World) : Calls Tryz.prog 86 #[.string ⟨#[49]⟩] w fun e w' => e = .returned (.tuple #[.int .i64 1, .nilIface]) ∧ B w w' := by
  have H := Lib.hid (iatoi1 w)
  go_enter Tryz.func86, Tryz.ntmps86
  go_wp2_with (first | (go_at_call 109; (with_reducible refine H.out.mono ?_); rintro e w1 ⟨rfl, hb⟩; have HB := Lib.hid hb; clear hb))
  go_ret2
  exact ⟨rfl, HB.out⟩
end Go.Proofs.YtnpjfjgnhadmjaaGreatDoor

/- The numbers of a log on a disk with no file, or with the first file alone. -/
namespace Go.Proofs.YtnpjfjgnhadmjaaGreatDoor
open Go.RowKit Go.Deep Go.Maps
set_option linter.unusedVariables false

theorem infoI : (Tryz.prog.info? 3).map (fun i => (i.zero, i.size, i.bytes)) = some (some (.int .i64 0), 1, 8) := by kernel_rfl
section
variable {W w : World} {p : Nat} {d : Dk} {X : List Asn} {n : List UInt8}
theorem St.rowOne (h : St W w X) (e : TypeId) (x : Value) : St W (w.alloc (.cells #[x] e)) (aRow e 1 (.slice (some ⟨w.heap.size, 0, none⟩) 1 1) 1 [x] :: X) :=
  h.add (B.alloc' _ _) (A := aRow e 1 (.slice (some ⟨w.heap.size, 0, none⟩) 1 1) 1 [x]) (own := fun b => b = w.heap.size)
    ⟨⟨rfl, .inr ⟨_, 1, #[x], rfl, Nat.zero_le _, heap_alloc_new w _, Nat.le_refl _, by unfold maxLen; omega, rfl, rfl⟩⟩, fun g hg => by simpa [Value.ownBlock] using hg.symm⟩ (fun b e => by omega)
theorem St.rowRdd {e : TypeId} {sz n : Nat} {v : Value} {xs : List Value} (h : St W w (aRow e sz v n xs :: X)) : Rd w v n sz xs := by
  obtain ⟨own, h1, _⟩ := h.get
  exact Rd.of_own h1.1
theorem numbers0 (h : St W w (aDisk p d :: X)) (hR : d.R = []) : Calls Tryz.prog 53 #[.pointer (some ⟨p, 0, none⟩), .string (bstr n)] w fun e w' => e = .returned (.slice none 0 0) ∧ St W w' (aDisk p d :: X) := by
  have HL := Lib.hid (list_c h)
  rw [hR] at HL
  clear h
  go_enter Tryz.func53, Tryz.ntmps53
  go_wp2_with (first | (go_at_call 61; (with_reducible refine HL.out.mono ?_); rintro e w1 ⟨v1, rfl, hS⟩; obtain ⟨A1, c1, hv⟩ := (show St W w1 (aRow _ _ _ _ _ :: _) from hS).rowSlice; simp only [List.map_nil, List.length_nil] at hv; subst hv; have H1 := Lib.hid hS.drop; clear hS))
  go_loopw [5, 16] (fun o i wr => i = .int .i64 0 ∧ o = .slice none 0 0 ∧ wr = w1) (fun _ i _ => 0)
  case atStart => exact ⟨rfl, rfl, rfl⟩
  case round =>
    obtain ⟨rfl, rfl, rfl⟩ := hrel
    go_wp2_with fail
    go_ret
    exact ⟨rfl, H1.out⟩
set_option maxRecDepth 20000 in
set_option maxHeartbeats 4000000 in
theorem numbers1 (h : St W w (aDisk p d :: X)) (hn : n.length ≤ 4194304) {b : List UInt8} {s : Nat} (hR : d.R = [⟨file1 n, b, s⟩]) : Calls Tryz.prog 53 #[.pointer (some ⟨p, 0, none⟩), .string (bstr n)] w fun e w' => ∃ g c, e = .returned (.slice (some ⟨g, 0, none⟩) 1 c) ∧ St W w' (aRow 3 1 (.slice (some ⟨g, 0, none⟩) 1 c) 1 [.int .i64 1] :: aDisk p d :: X) := by
  have HL := Lib.hid (list_c h)
  rw [hR] at HL
  have hsz := bstr_size n
  obtain ⟨S, hS⟩ : ∃ S, n.length = S := ⟨_, rfl⟩
  rw [hS] at hsz
  have q0 : ¬ (9223372036854775807 : Nat) < S + 1 := by omega
  have HCP := Lib.hid (fun w' : World => show Calls Tryz.prog 85 #[.string (bstr (file1 n)), .string (bstr n ++ ⟨#[46]⟩)] w' fun e w'' => e = .returned (.tuple #[.string ⟨#[49]⟩, .bool true]) ∧ w' = w'' from by
    have := cut_c (p := n ++ [46]) (s := [49]) w' (by simp; omega)
    rw [show (n ++ [46]) ++ [49] = file1 n by simp [file1], ← bstr_add] at this
    exact this)
  clear h hS hn
  go_enter Tryz.func53, Tryz.ntmps53
  go_wp2_with (first | (go_at_call 61; (with_reducible refine HL.out.mono ?_); rintro e w1 ⟨v1, rfl, hS⟩; obtain ⟨A1, c1, hv⟩ := (show St W w1 (aRow _ _ _ _ _ :: _) from hS).rowSlice; simp only [List.map_cons, List.map_nil, List.length_cons, List.length_nil] at hv; subst hv; have H1 := Lib.hid hS; clear hS))
  go_loopw [5, 16] (fun o i wr => ∃ q : Nat, q ≤ 1 ∧ i = .int .i64 q ∧ (q = 0 → o = .slice none 0 0) ∧ Hid (q = 0 → St W wr (aStr (.slice A1 1 c1) [file1 n] :: aDisk p d :: X)) ∧ Hid (q = 1 → ∃ g c, o = .slice (some ⟨g, 0, none⟩) 1 c ∧ St W wr (aRow 3 1 (.slice (some ⟨g, 0, none⟩) 1 c) 1 [.int .i64 1] :: aDisk p d :: X))) (fun _ i _ => 1 - (intOf i).toNat)
  case atStart => exact ⟨0, by omega, rfl, fun _ => rfl, fun _ => H1.out, fun h => (by cases h)⟩
  case round =>
    obtain ⟨q, hq, rfl, ho, HA, HB⟩ := hrel
    clear H1
    have hq2 : q = 0 ∨ q = 1 := by omega
    rcases hq2 with rfl | rfl
    · obtain rfl := ho rfl
      have HS := Lib.hid (HA.out rfl)
      have hrow : St W wr (aRow 9 1 (.slice A1 1 c1) 1 [.string (bstr (file1 n))] :: aDisk p d :: X) := HS.out
      obtain ⟨g, rfl⟩ := hrow.rowSome (by omega)
      have kx := hrow.rowAt (j := 0) (x := .string (bstr (file1 n))) rfl
      clear hrow ho HA HB
      go_wp2_with (first
        | (go_at_call 85; (with_reducible refine (HCP.out _).mono ?_); rintro e w2 ⟨rfl, rfl⟩)
        | (go_at_call 86; (with_reducible refine (atoi1 _).mono ?_); rintro e w3 ⟨rfl, hb⟩; have H3 := Lib.hid (HS.out.drop.later hb); clear hb)
        | (go_at_call 87; (with_reducible refine (itoa1 _).mono ?_); rintro e w4 ⟨rfl, rfl⟩))
      go_loopw [12] (fun k wr => k = .int .i64 0 ∧ wr = w3) (fun _ _ => 0)
      case atStart => exact ⟨rfl, rfl⟩
      case round =>
        obtain ⟨rfl, rfl⟩ := hrel
        have HO := Lib.hid (fun w' (hw : B wr w') => (H3.out.later hw).rowOne 3 (.int .i64 1))
        have o0 : ∀ x ∈ ([] : List Value), x.oneCell' = true := by simp
        have o1 : ∀ x ∈ [Value.int .i64 1], x.oneCell' = true := by simp [Value.oneCell']
        go_wp2_with fail
        go_region_law (first
          | (refine step_append_St rfl (.tmp 67) (.tmp 70) 64 rfl Tryz.underlying64 infoI rfl Nat.zero_lt_one rfl rfl (HO.out _ (Below.refl _ _).drew) (Rd.nil _ 1) o0 (by unfold maxLen; omega) (by omega) ?_; intro A5 c5 w5 hS; simp only [Nat.add_zero, List.append_nil] at hS; simp only [Nat.add_zero]; have H5 := Lib.hid hS; clear hS)
          | (refine step_append_St rfl (.tmp 65) (.tmp 71) 64 rfl Tryz.underlying64 infoI rfl Nat.zero_lt_one rfl rfl (H5.out.rowNil 3 1) (St.rowRdd H5.out) o1 (by unfold maxLen; omega) (by omega) ?_; intro A6 c6 w6 hS; simp only [Nat.zero_add, List.nil_append] at hS; simp only [Nat.zero_add]; obtain ⟨g6, rfl⟩ := hS.rowSome (by omega); have H6 := Lib.hid hS.drop2; clear hS))
        all_goals
          go_wp2_with fail
          go_roundw
          case rel => exact ⟨1, by omega, by go_num, fun h => (by cases h), fun h => (by cases h), fun _ => ⟨g6, c6, rfl, H6.out⟩⟩
          case measure => simp [intOf]
    · obtain ⟨g, c, rfl, hS⟩ := HB.out rfl
      have HS := Lib.hid hS
      clear ho HA HB hS
      go_wp2_with fail
      go_ret
      exact ⟨_, _, rfl, HS.out⟩
end
end Go.Proofs.YtnpjfjgnhadmjaaGreatDoor

/- A log with one segment as an object; its methods that only read. -/
namespace Go.Proofs.YtnpjfjgnhadmjaaGreatDoor
open Go.RowKit Go.Deep Go.Maps
set_option linter.unusedVariables false

/-- a log with one segment: its name, its size at most, what is sure; the segment's number, first record, size, records -/
structure Lg where
  name : List UInt8
  most : Int
  sure : Int
  n : Int
  first : Int
  size : Int
  L : List (List UInt8)
def segC (g : Lg) (vL : Value) : List Value := [.int .i64 g.n, .int .i64 g.first, vL, .int .i64 g.size]
def lgL (p dp : Nat) (g : Lg) (s c : Nat) (vL : Value) : List Asn :=
  [aBlk p 48 #[.pointer (some ⟨dp, 0, none⟩), .string (bstr g.name), .int .i64 g.most, .slice (some ⟨s, 0, none⟩) 1 c, .int .i64 g.sure], aRow 107 4 (.slice (some ⟨s, 0, none⟩) 1 c) 1 (segC g vL), aPl vL g.L]
def LgE (g : Lg) : Prop := g.L.length ≤ 1099511627776 ∧ 0 ≤ g.first ∧ g.first ≤ 9007199254740992
/-- a log -/
def aLg (p dp : Nat) (g : Lg) : Asn := aSome (fun _ : Nat × Nat × Value => LgE g) (fun x => lgL p dp g x.1 x.2.1 x.2.2)
section
variable {W w : World} {p dp s c : Nat} {g : Lg} {vL : Value} {X : List Asn}
theorem St.rot4 {A C D E : Asn} (h : St W w (A :: C :: D :: E :: X)) : St W w (E :: A :: C :: D :: X) := h.perm (List.perm_middle (l₁ := [A, C, D]) (l₂ := X))
theorem St.rot5 {A C D E F : Asn} (h : St W w (A :: C :: D :: E :: F :: X)) : St W w (F :: A :: C :: D :: E :: X) := h.perm (List.perm_middle (l₁ := [A, C, D, E]) (l₂ := X))
theorem St.rot6 {A C D E F G : Asn} (h : St W w (A :: C :: D :: E :: F :: G :: X)) : St W w (G :: A :: C :: D :: E :: F :: X) := h.perm (List.perm_middle (l₁ := [A, C, D, E, F]) (l₂ := X))
theorem St.swap2 {A C D : Asn} (h : St W w (A :: C :: D :: X)) : St W w (A :: D :: C :: X) := h.perm (List.Perm.cons _ (List.Perm.swap _ _ _))
theorem aLg.open_ (h : St W w (aLg p dp g :: X)) : ∃ s c vL, LgE g ∧ St W w (lgL p dp g s c vL ++ X) := by
  obtain ⟨x, h1, h2⟩ := h.open_
  exact ⟨x.1, x.2.1, x.2.2, h1, h2⟩
theorem aLg.shut (hE : LgE g) (h : St W w (lgL p dp g s c vL ++ X)) : St W w (aLg p dp g :: X) := St.shut (a := (s, c, vL)) hE h
theorem St.rowN {e : TypeId} {sz g n c : Nat} {xs : List Value} (h : St W w (aRow e sz (.slice (some ⟨g, 0, none⟩) n c) n xs :: X)) {j : Nat} {x : Value} (hj : xs[j]? = some x) : w.cell? ⟨g, j, none⟩ = some x := by
  obtain ⟨own, hr, _⟩ := h.get
  obtain ⟨hl, A, cap, hv, _, _, hx⟩ := Rd.of_own hr.1
  injection hv with h1 _ _
  have := (hx _ h1.symm).2 j x hj
  rw [addr_at, Nat.zero_add] at this
  exact this
theorem St.rowNSome {e : TypeId} {sz : Nat} {A : Option Addr} {n c : Nat} {xs : List Value} (h : St W w (aRow e sz (.slice A n c) n xs :: X)) (hn : 0 < n) : ∃ g, A = some ⟨g, 0, none⟩ := by
  obtain ⟨own, hr, _⟩ := h.get
  rcases hr.1.2 with ⟨h1, h2⟩ | ⟨g, cap, cur, h1, _⟩
  · injection h1 with h1 h3 h4; omega
  · injection h1 with h1 h3 h4; exact ⟨g, h1⟩
/-- the cells of a log -/
theorem lgL.cells (h : St W w (lgL p dp g s c vL ++ X)) : w.cell? ⟨p, 0, none⟩ = some (.pointer (some ⟨dp, 0, none⟩)) ∧ w.cell? ⟨p, 1, none⟩ = some (.string (bstr g.name)) ∧ w.cell? ⟨p, 2, none⟩ = some (.int .i64 g.most) ∧ w.cell? ⟨p, 3, none⟩ = some (.slice (some ⟨s, 0, none⟩) 1 c) ∧ w.cell? ⟨p, 4, none⟩ = some (.int .i64 g.sure) ∧
    w.cell? ⟨s, 0, none⟩ = some (.int .i64 g.n) ∧ w.cell? ⟨s, 1, none⟩ = some (.int .i64 g.first) ∧ w.cell? ⟨s, 2, none⟩ = some vL ∧ w.cell? ⟨s, 3, none⟩ = some (.int .i64 g.size) := by
  have hb := aBlk.get h
  have c0 := hb.cell 0
  have c1 := hb.cell 1
  have c2 := hb.cell 2
  have c3 := hb.cell 3
  have c4 := hb.cell 4
  simp at c0 c1 c2 c3 c4
  have hs := St.swap h
  exact ⟨c0, c1, c2, c3, c4, hs.rowN (j := 0) rfl, hs.rowN (j := 1) rfl, hs.rowN (j := 2) rfl, hs.rowN (j := 3) rfl⟩
theorem lgL.recs (h : St W w (lgL p dp g s c vL ++ X)) : ∃ A c', vL = .slice A g.L.length c' := aPl.slice (St.rot3 h)
theorem Lnone_o (h : St W w (lgL p dp g s c vL ++ X)) : Calls Tryz.prog 64 #[.pointer (some ⟨p, 0, none⟩)] w fun e w' => e = .returned (.bool false) ∧ w = w' := by
  obtain ⟨_, _, _, k3, _⟩ := lgL.cells h
  clear h
  go_enter Tryz.func64, Tryz.ntmps64
  go_wp2
  go_ret
  exact ⟨rfl, rfl⟩
theorem Lend_o (h : St W w (lgL p dp g s c vL ++ X)) : Calls Tryz.prog 65 #[.pointer (some ⟨p, 0, none⟩)] w fun e w' => e = .returned (.pointer (some ⟨s, 0, none⟩)) ∧ B w w' := by
  obtain ⟨_, _, _, k3, _⟩ := lgL.cells h
  clear h
  go_enter Tryz.func65, Tryz.ntmps65
  go_wp2_with fail
  go_quiet (fail)
  go_wp2_with fail
  go_ret
  exact ⟨rfl, B.drewN' _⟩
def lastF (g : Lg) : Int := g.first + (g.L.length : Int) - 1
theorem segLast_c (w : World) (hE : LgE g) {A : Option Addr} {c' : Nat} : Calls Tryz.prog 68 #[.agg #[.int .i64 g.n, .int .i64 g.first, .slice A g.L.length c', .int .i64 g.size]] w fun e w' => e = .returned (.int .i64 (lastF g)) ∧ B w w' := by
  obtain ⟨h1, h2, h3⟩ := hE
  have HF := Lib.hid (show g.first + (g.L.length : Int) - 1 = lastF g from rfl)
  generalize g.first = f at *
  obtain ⟨l, hl⟩ : ∃ l, g.L.length = l := ⟨_, rfl⟩
  rw [hl] at h1 HF ⊢
  have hb : B w (w.alloc (.cells #[.int .i64 g.n, .int .i64 f, .slice A l c', .int .i64 g.size] 107)) := B.alloc' _ _
  have HB := Lib.hid hb
  have h4 : (l : Int) ≤ 1099511627776 := by omega
  generalize g.n = n at *
  generalize g.size = sz at *
  clear hb hl h1
  go_enter Tryz.func68, Tryz.ntmps68
  go_wp2_with fail
  go_ret
  exact ⟨retI HF.out, HB.out⟩
theorem Llast_o (h : St W w (lgL p dp g s c vL ++ X)) (hE : LgE g) : Calls Tryz.prog 27 #[.pointer (some ⟨p, 0, none⟩)] w fun e w' => e = .returned (.int .i64 (lastF g)) ∧ B w w' := by
  have HN := Lib.hid (Lnone_o h)
  have HEN := Lib.hid (Lend_o h)
  obtain ⟨A, c', rfl⟩ := lgL.recs h
  have HS := Lib.hid (fun w' => segLast_c (g := g) w' hE (A := A) (c' := c'))
  obtain ⟨_, _, _, _, _, k0, k1, k2, k3⟩ := lgL.cells h
  clear h hE
  generalize lastF g = z at *
  go_enter Tryz.func27, Tryz.ntmps27
  go_wp2_with (first
    | (go_at_call 64; (with_reducible refine HN.out.mono ?_); rintro e w1 ⟨rfl, rfl⟩)
    | (go_at_call 65; (with_reducible refine HEN.out.mono ?_); rintro e w2 ⟨rfl, hb⟩; have HB := Lib.hid hb; have l0 := hb.cell k0; have l1 := hb.cell k1; have l2 := hb.cell k2; have l3 := hb.cell k3; clear hb)
    | (go_at_call 68; (with_reducible refine (HS.out _).mono ?_); rintro e w3 ⟨rfl, hb⟩; have HB3 := Lib.hid hb; clear hb))
  go_ret
  exact ⟨rfl, HB.out.trans HB3.out⟩
theorem Lsynced_o (h : St W w (lgL p dp g s c vL ++ X)) : Calls Tryz.prog 28 #[.pointer (some ⟨p, 0, none⟩)] w fun e w' => e = .returned (.int .i64 g.sure) ∧ w = w' := by
  have HN := Lib.hid (Lnone_o h)
  obtain ⟨_, _, _, _, k4, _⟩ := lgL.cells h
  clear h
  go_enter Tryz.func28, Tryz.ntmps28
  go_wp2_with (first
    | (go_at_call 64; (with_reducible refine HN.out.mono ?_); rintro e w1 ⟨rfl, rfl⟩))
  go_ret
  exact ⟨rfl, rfl⟩
end
end Go.Proofs.YtnpjfjgnhadmjaaGreatDoor
