/- Lemmas and contracts, part 12. -/
import Derived.Test.YtoikjgcggmemaaaGreatDoorZb11
import Derived.Shelf.SlIter.Nil
import Derived.Shelf.SortM.Plain
import Derived.Shelf.SortM.SortNone
import Derived.Ground.GgzProg
import Derived.Ground.SlgmProg
import Derived.Test.YtoikjgcggmemaaaGreatDoorRows
/- The library's contracts on slices.Sorted over maps.Keys, laid at this translation. -/
namespace Go.Proofs.YtoikjgcggmemaaaGreatDoor
open Go.RowKit Go.Maps Go.Sort Go.Shelf Go.Proofs

def Tryz.keys54_ren : Go.Shelf.Ren := ⟨fun | 7 => 54 | 10 => 66 | n => n, fun | 23 => 47 | 26 => 9 | 3 => 73 | 28 => 101 | 0 => 0 | 27 => 100 | 33 => 113 | 4 => 4 | n => n, fun | n => n⟩
theorem Tryz.keys54 : Go.Proofs.SlLaysZ.n7 Tryz.prog Tryz.keys54_ren := {
  mixed := by kernel_rfl
  f7 := ⟨Tryz.f54.name, by decide, Tryz.func54.trans (congrArg some (by kernel_rfl))⟩
  f10 := ⟨Tryz.f66.name, by decide, Tryz.func66.trans (congrArg some (by kernel_rfl))⟩
  t0 := Tryz.underlying0
  a0 := Tryz.isAgg0
  z0 := Tryz.sizeOf0
  v0 := Tryz.zeroValue0
  t4 := Tryz.underlying4
  a4 := Tryz.isAgg4
  z4 := Tryz.sizeOf4
  v4 := Tryz.zeroValue4
  t23 := Tryz.underlying47
  a23 := Tryz.isAgg47
  z23 := Tryz.sizeOf47
  v23 := Tryz.zeroValue47
  t26 := Tryz.underlying9
  a26 := Tryz.isAgg9
  z26 := Tryz.sizeOf9
  v26 := Tryz.zeroValue9
  t27 := Tryz.underlying100
  a27 := Tryz.isAgg100
  z27 := Tryz.sizeOf100
  v27 := Tryz.zeroValue100
  t28 := Tryz.underlying101
  a28 := Tryz.isAgg101
  z28 := Tryz.sizeOf101
  v28 := Tryz.zeroValue101
  t33 := Tryz.underlying113
  a33 := Tryz.isAgg113
  z33 := Tryz.sizeOf113
  v33 := Tryz.zeroValue113 }
def Tryz.sorted53_ren : Go.Shelf.Ren := ⟨fun | 6 => 53 | 8 => 64 | 9 => 65 | 11 => 79 | 13 => 81 | 12 => 80 | 23 => 104 | 24 => 105 | 14 => 95 | 15 => 96 | 16 => 97 | 17 => 98 | 18 => 99 | 19 => 100 | 20 => 101 | 21 => 102 | 22 => 103 | 25 => 112 | 26 => 113 | 27 => 114 | 28 => 115 | 29 => 116 | 30 => 117 | 31 => 120 | n => n, fun | 26 => 9 | 28 => 101 | 24 => 71 | 0 => 0 | 3 => 3 | 37 => 95 | 48 => 93 | 50 => 87 | 4 => 4 | 40 => 148 | 39 => 147 | 45 => 152 | 5 => 5 | 9 => 9 | 51 => 164 | 55 => 168 | 57 => 170 | 58 => 171 | 33 => 113 | n => n, fun | n => n⟩
theorem Tryz.sorted53 : Go.Proofs.SlLaysZ.n6 Tryz.prog Tryz.sorted53_ren := {
  mixed := by kernel_rfl
  f6 := ⟨Tryz.f53.name, by decide, Tryz.func53.trans (congrArg some (by kernel_rfl))⟩
  f8 := ⟨Tryz.f64.name, by decide, Tryz.func64.trans (congrArg some (by kernel_rfl))⟩
  f11 := ⟨Tryz.f79.name, by decide, Tryz.func79.trans (congrArg some (by kernel_rfl))⟩
  t0 := Tryz.underlying0
  a0 := Tryz.isAgg0
  z0 := Tryz.sizeOf0
  v0 := Tryz.zeroValue0
  t24 := Tryz.underlying71
  a24 := Tryz.isAgg71
  z24 := Tryz.sizeOf71
  v24 := Tryz.zeroValue71
  t26 := Tryz.underlying9
  a26 := Tryz.isAgg9
  z26 := Tryz.sizeOf9
  v26 := Tryz.zeroValue9
  t28 := Tryz.underlying101
  a28 := Tryz.isAgg101
  z28 := Tryz.sizeOf101
  v28 := Tryz.zeroValue101
  i26 := by kernel_rfl }
def Tryz.sort65_ren : Go.Shelf.Ren := ⟨fun | 6 => 65 | 8 => 81 | 9 => 80 | 19 => 104 | 20 => 105 | 21 => 95 | 22 => 96 | 23 => 97 | 24 => 98 | 25 => 99 | 26 => 100 | 27 => 101 | 28 => 102 | 29 => 103 | 36 => 112 | 31 => 113 | 32 => 114 | 37 => 115 | 38 => 116 | 39 => 117 | 41 => 120 | n => n, fun | 27 => 71 | 29 => 9 | 3 => 3 | 32 => 95 | 26 => 71 | 0 => 0 | 44 => 93 | 46 => 87 | 4 => 4 | 36 => 148 | 35 => 147 | 41 => 152 | 5 => 5 | 9 => 9 | 53 => 164 | 57 => 168 | 63 => 170 | 64 => 171 | n => n, fun | n => n⟩
theorem Tryz.sort65 : Go.Proofs.SlLaysM.n6 Tryz.prog Tryz.sort65_ren := {
  mixed := by kernel_rfl
  f6 := ⟨Tryz.f65.name, by decide, Tryz.func65.trans (congrArg some (by kernel_rfl))⟩
  f8 := Tryz.func81.trans (congrArg some (by kernel_rfl))
  f9 := ⟨Tryz.f80.name, by decide, Tryz.func80.trans (congrArg some (by kernel_rfl))⟩
  f19 := Tryz.func104.trans (congrArg some (by kernel_rfl))
  f20 := Tryz.func105.trans (congrArg some (by kernel_rfl))
  f21 := ⟨Tryz.f95.name, by decide, Tryz.func95.trans (congrArg some (by kernel_rfl))⟩
  f22 := ⟨Tryz.f96.name, by decide, Tryz.func96.trans (congrArg some (by kernel_rfl))⟩
  f23 := ⟨Tryz.f97.name, by decide, Tryz.func97.trans (congrArg some (by kernel_rfl))⟩
  f24 := ⟨Tryz.f98.name, by decide, Tryz.func98.trans (congrArg some (by kernel_rfl))⟩
  f25 := ⟨Tryz.f99.name, by decide, Tryz.func99.trans (congrArg some (by kernel_rfl))⟩
  f26 := ⟨Tryz.f100.name, by decide, Tryz.func100.trans (congrArg some (by kernel_rfl))⟩
  f27 := ⟨Tryz.f101.name, by decide, Tryz.func101.trans (congrArg some (by kernel_rfl))⟩
  f28 := ⟨Tryz.f102.name, by decide, Tryz.func102.trans (congrArg some (by kernel_rfl))⟩
  f29 := ⟨Tryz.f103.name, by decide, Tryz.func103.trans (congrArg some (by kernel_rfl))⟩
  f31 := Tryz.func113.trans (congrArg some (by kernel_rfl))
  f32 := Tryz.func114.trans (congrArg some (by kernel_rfl))
  f36 := ⟨Tryz.f112.name, by decide, Tryz.func112.trans (congrArg some (by kernel_rfl))⟩
  f37 := ⟨Tryz.f115.name, by decide, Tryz.func115.trans (congrArg some (by kernel_rfl))⟩
  f38 := ⟨Tryz.f116.name, by decide, Tryz.func116.trans (congrArg some (by kernel_rfl))⟩
  f39 := ⟨Tryz.f117.name, by decide, Tryz.func117.trans (congrArg some (by kernel_rfl))⟩
  f41 := ⟨Tryz.f120.name, by decide, Tryz.func120.trans (congrArg some (by kernel_rfl))⟩
  t0 := Tryz.underlying0
  a0 := Tryz.isAgg0
  z0 := Tryz.sizeOf0
  v0 := Tryz.zeroValue0
  t3 := Tryz.underlying3
  a3 := Tryz.isAgg3
  z3 := Tryz.sizeOf3
  v3 := Tryz.zeroValue3
  t4 := Tryz.underlying4
  a4 := Tryz.isAgg4
  z4 := Tryz.sizeOf4
  v4 := Tryz.zeroValue4
  t5 := Tryz.underlying5
  a5 := Tryz.isAgg5
  z5 := Tryz.sizeOf5
  v5 := Tryz.zeroValue5
  t9 := Tryz.underlying9
  a9 := Tryz.isAgg9
  z9 := Tryz.sizeOf9
  v9 := Tryz.zeroValue9
  t26 := Tryz.underlying71
  a26 := Tryz.isAgg71
  z26 := Tryz.sizeOf71
  v26 := Tryz.zeroValue71
  t27 := Tryz.underlying71
  a27 := Tryz.isAgg71
  z27 := Tryz.sizeOf71
  v27 := Tryz.zeroValue71
  t29 := Tryz.underlying9
  a29 := Tryz.isAgg9
  z29 := Tryz.sizeOf9
  v29 := Tryz.zeroValue9
  t32 := Tryz.underlying95
  a32 := Tryz.isAgg95
  z32 := Tryz.sizeOf95
  v32 := Tryz.zeroValue95
  t35 := Tryz.underlying147
  a35 := Tryz.isAgg147
  z35 := Tryz.sizeOf147
  v35 := Tryz.zeroValue147
  t36 := Tryz.underlying148
  a36 := Tryz.isAgg148
  z36 := Tryz.sizeOf148
  v36 := Tryz.zeroValue148
  t41 := Tryz.underlying152
  a41 := Tryz.isAgg152
  z41 := Tryz.sizeOf152
  v41 := Tryz.zeroValue152
  t44 := Tryz.underlying93
  a44 := Tryz.isAgg93
  z44 := Tryz.sizeOf93
  v44 := Tryz.zeroValue93
  t46 := Tryz.underlying87
  a46 := Tryz.isAgg87
  z46 := Tryz.sizeOf87
  v46 := Tryz.zeroValue87
  t53 := Tryz.underlying164
  a53 := Tryz.isAgg164
  z53 := Tryz.sizeOf164
  v53 := Tryz.zeroValue164
  t57 := Tryz.underlying168
  a57 := Tryz.isAgg168
  z57 := Tryz.sizeOf168
  v57 := Tryz.zeroValue168
  t63 := Tryz.underlying170
  a63 := Tryz.isAgg170
  z63 := Tryz.sizeOf170
  v63 := Tryz.zeroValue170
  t64 := Tryz.underlying171
  a64 := Tryz.isAgg171
  z64 := Tryz.sizeOf171
  v64 := Tryz.zeroValue171 }

/-- slices.Sort's two contracts at this dump, at the fence that asks nothing. -/
theorem Tryz.sorts53 (m : Nat) : AnyZ.SortsIn Tryz.prog Tryz.sorted53_ren Fence.wide m :=
  ⟨fun blk off cap ss W hH hblk hsz => callsIn_wide.2 (AnyM.slices_Sort_string Tryz.sort65 blk off cap ss W hH hblk hsz),
   fun p cap W => callsIn_wide.2 (AnyM.slices_Sort_string_none Tryz.sort65 p cap W)⟩

/-- **maps.Keys[map[string]*bulla/disk.file,string,*bulla/disk.file], at whatever map, the nil one too:** a function value over ONE NEW BLOCK, which holds the map. -/
theorem Tryz.maps_Keys_54 (mb : Option Nat) (W : World) : CallsIn Fence.wide 5 Tryz.prog 54 #[.map mb] W fun e w' => e = .returned (.func (.func 66) #[] #[.pointer (some ⟨W.heap.size, 0, none⟩)]) ∧ w' = W.alloc (.cells #[.map mb] 47) :=
  AnyZ.keys_in Tryz.keys54 Fence.wide 5 trivial rfl mb W

set_option maxHeartbeats 1000000 in
/-- **slices.Sorted[string] AT WHAT maps.Keys[map[string]*bulla/disk.file,string,*bulla/disk.file] HANDED BACK FOR A MAP THAT IS NOT nil** ('w': the world AHEAD of maps.Keys' call): A NEW SLICE THAT HOLDS THE MAP's KEYS, SORTED; nil just where it has none; nothing that lay before has turned. -/
theorem Tryz.slices_Sorted_keys_53_54 {H : Type} (b nn : Nat) (D0 : DataW H) (R : Value → Option (DataW H × List MemPlace)) (w : World) (hown : w.ownsMap Tryz.prog 9 R b nn D0) (hmax : Maps.size D0 ≤ maxLen) (hbytes : Maps.size D0 * 16 ≤ 140737488355328) :
    CallsIn Fence.wide 5 Tryz.prog 53 #[.func (.func 66) #[] #[.pointer (some ⟨w.heap.size, 0, none⟩)]] (w.alloc (.cells #[.map (some b)] 47)) fun e w' => ∃ (v : Value) (ss : List (List UInt8)), e = .returned v ∧ ss.Perm (strKeys D0) ∧
      w'.ownsRow (w.alloc (.cells #[.map (some b)] 47)).heap.size 9 1 v ss.length ((ss.mergeSort (fun x y => decide (x ≤ y))).map encStr) ∧ (v = .slice none 0 0 ↔ ss = []) ∧ Below (w.alloc (.cells #[.map (some b)] 47)).heap.size (w.alloc (.cells #[.map (some b)] 47)) w' := by
  have hbl := hown.lt
  have hseq : SeqGives Fence.wide 2 Tryz.prog 66 #[.pointer (some ⟨w.heap.size, 0, none⟩)] encStr (fun ss => ss.Perm (strKeys D0)) (Maps.size D0) (w.alloc (.cells #[.map (some b)] 47)) :=
    AnyZ.keys_gives (ρ := Tryz.keys54_ren) { Tryz.keys54 with } Fence.wide _ trivial rfl (by omega) w.heap.size b nn D0 _ (by simp) (by simp) (by
      obtain ⟨es, clock, hb, Ft, hs, hD⟩ := hown
      exact ⟨es, clock, (Below.heap_alloc _ _ b hbl).trans hb, Ft, hs, hD⟩)
  exact AnyZ.sorted_in Tryz.sorted53 Fence.wide 5 trivial trivial trivial trivial rfl (by omega) (Tryz.sorts53 _) (enters_of Tryz.func65 (by kernel_rfl) rfl) 66 #[.pointer (some ⟨w.heap.size, 0, none⟩)] trivial (enters_of Tryz.func66 (by kernel_rfl) rfl) _ _ hmax hbytes _ hseq

set_option maxHeartbeats 1000000 in
/-- **.. AND FOR THE nil MAP: nil.** -/
theorem Tryz.slices_Sorted_keys_nil_53_54 (w : World) :
    CallsIn Fence.wide 5 Tryz.prog 53 #[.func (.func 66) #[] #[.pointer (some ⟨w.heap.size, 0, none⟩)]] (w.alloc (.cells #[.map none] 47)) fun e w' => ∃ (v : Value) (ss : List (List UInt8)), e = .returned v ∧ ss = [] ∧
      w'.ownsRow (w.alloc (.cells #[.map none] 47)).heap.size 9 1 v ss.length ((ss.mergeSort (fun x y => decide (x ≤ y))).map encStr) ∧ (v = .slice none 0 0 ↔ ss = []) ∧ Below (w.alloc (.cells #[.map none] 47)).heap.size (w.alloc (.cells #[.map none] 47)) w' := by
  have hseq : SeqGives Fence.wide 2 Tryz.prog 66 #[.pointer (some ⟨w.heap.size, 0, none⟩)] encStr (fun ss : List (List UInt8) => ss = []) 0 (w.alloc (.cells #[.map none] 47)) :=
    AnyZ.keys_gives_nil (ρ := Tryz.keys54_ren) { Tryz.keys54 with } Fence.wide _ trivial rfl w.heap.size _ (by simp) (by simp)
  exact AnyZ.sorted_in Tryz.sorted53 Fence.wide 5 trivial trivial trivial trivial rfl (by omega) (Tryz.sorts53 _) (enters_of Tryz.func65 (by kernel_rfl) rfl) 66 #[.pointer (some ⟨w.heap.size, 0, none⟩)] trivial (enters_of Tryz.func66 (by kernel_rfl) rfl) _ 0 (Nat.zero_le _) (by omega) _ hseq




end Go.Proofs.YtoikjgcggmemaaaGreatDoor

/- Crash, New of a disk. -/
namespace Go.Proofs.YtoikjgcggmemaaaGreatDoor
open Go.RowKit Go.Maps Go.Deep Go.Sort Go.Shelf
set_option linter.unusedVariables false

theorem bb_le : ∀ a b : List UInt8, bytesBefore a b = true → a ≤ b
  | [], [], h => by simp [bytesBefore] at h
  | [], _ :: _, _ => List.nil_le _
  | _ :: _, [], h => by simp [bytesBefore] at h
  | a :: r, b :: s, h => by
    simp only [bytesBefore, Bool.or_eq_true, Bool.and_eq_true, decide_eq_true_eq, beq_iff_eq] at h
    rw [List.cons_le_cons_iff]
    rcases h with h | ⟨rfl, h⟩
    · exact .inl h
    · exact .inr ⟨rfl, bb_le r s h⟩
def aStr (v : Value) (L : List (List UInt8)) : Asn := aRow 9 1 v L.length (L.map fun n => .string (bstr n))
section
variable {W w : World} {p m : Nat} {d : Dk} {E : List (Fl × Nat)} {X : List Asn} {n : List UInt8}
theorem list_c (h : St W w (aDisk p d :: X)) : Calls Tryz.prog 36 #[.pointer (some ⟨p, 0, none⟩)] w fun e w' => ∃ v, e = .returned v ∧ St W w' (aStr v (d.R.map Fl.nm) :: aDisk p d :: X) := by
  have H0 := Lib.hid h
  obtain ⟨m, E, hE, h⟩ := aDisk.open_ h
  have hb := dkL.blk h
  have c1 := hb.cell 1
  simp at c1
  have HN := Lib.hid (none_c hb)
  obtain ⟨n0, hmap⟩ := aMap.get h.swap
  have hme := many_E hE
  have HK := Lib.hid (callsIn_wide.1 (Tryz.maps_Keys_54 (some m) w))
  have HS := Lib.hid (callsIn_wide.1 (Tryz.slices_Sorted_keys_53_54 m n0 (dOf E) ptrElem w hmap (by rw [dOf_size]; unfold maxLen; omega) (by rw [dOf_size]; omega)))
  have HP := Lib.hid (show ∀ ss : List (List UInt8), ss.Perm (strKeys (dOf E)) → ss.length = (d.R.map Fl.nm).length ∧ ss.mergeSort (fun x y => decide (x ≤ y)) = d.R.map Fl.nm from fun ss hss => by
    rw [dOf_keys, hE.2] at hss
    refine ⟨hss.length_eq, ?_⟩
    have h1 := mergeSort_of_perm hss
    have h2 : (d.R.map Fl.nm).Pairwise (fun a b => leB a b = true) := List.pairwise_map.2 (hE.1.rise.imp fun {a b} hab => by
      simp only [leB, decide_eq_true_eq]; exact bb_le _ _ hab)
    rw [List.mergeSort_of_pairwise h2] at h1
    exact h1)
  clear h hE hb hmap hme
  go_enter Tryz.func36, Tryz.ntmps36
  go_wp2_with (first
    | (go_at_call 38; (with_reducible refine HN.out.mono ?_); rintro e w1 ⟨rfl, rfl⟩)
    | (go_at_call 54; (with_reducible refine HK.out.mono ?_); rintro e w1 ⟨rfl, rfl⟩)
    | (go_at_call 53; (with_reducible refine HS.out.mono ?_); rintro e w2 ⟨v, ss, rfl, hp, hrow, hnil, hb2⟩; have HP2 := Lib.hid (HP.out ss hp); have HR2 := Lib.hid hrow; have HB2 := Lib.hid hb2; clear hp hrow hnil hb2))
  go_ret
  refine ⟨_, rfl, ?_⟩
  have h1 := (H0.out.later (B.alloc' w _)).addRow HB2.out HR2.out
  rw [HP2.out.2, HP2.out.1] at h1
  exact h1
theorem names_le (h : St W w (dkL p m d E ++ X)) (hE : DkE d (m, E)) : ∀ f ∈ d.R, f.nm.length ≤ maxLen := by
  intro f hf
  obtain ⟨n0, hn⟩ := aMap.get h.swap
  obtain ⟨es, h1, h2⟩ := hn.keysOf
  rw [← hE.2] at hf
  obtain ⟨x, hx, rfl⟩ := List.mem_map.1 hf
  have he : es = E.map entOf := (DataW.map.inj h1).symm
  obtain ⟨v, hv⟩ := h2 (entOf x) (by rw [he]; exact List.mem_map.2 ⟨x, hx, rfl⟩)
  obtain ⟨y, _, e2, e3⟩ := Maps.keyOf_str Tryz.underlying9 hv
  have e2 := Lit.string.inj e2
  rw [e2]; exact e3
theorem set_ok (h : d.ok) {i : Nat} {f f' : Fl} (hi : d.R[i]? = some f) (hn : f'.nm = f.nm) (hs : f'.sure ≤ f'.b.length) (hl : f'.b.length ≤ f.b.length) : ({ d with R := d.R.set i f' } : Dk).ok := by
  refine ⟨set_rise h.rise hi hn, fun x hx => ?_, ?_, h.room, ?_⟩
  · rcases mem_set hx with hx | rfl
    · exact h.sure x hx
    · exact hs
  · have := used_set (g := f') hi
    have := h.used
    show ((usedF (d.R.set i f') : Nat) : Int) ≤ d.room
    omega
  · show (d.R.set i f').length ≤ 64
    rw [List.length_set]; exact h.many
/-- a disk on the way of a crash -/
def crashQ (k : Int) (d : Dk) (q : Nat) : Dk := { d with R := (d.R.take q).map (crashB k) ++ d.R.drop q }
theorem crashQ_at {k : Int} {q : Nat} {f : Fl} (h : d.R[q]? = some f) : (crashQ k d q).R[q]? = some f := by
  have hq : q < d.R.length := by
    rcases Nat.lt_or_ge q d.R.length with h' | h'
    · exact h'
    · rw [List.getElem?_eq_none h'] at h; cases h
  unfold crashQ
  simp only
  rw [List.getElem?_append_right (by simp; omega)]
  simp [Nat.min_eq_left (Nat.le_of_lt hq), h]
theorem crashQ_next {k : Int} {q : Nat} {f : Fl} (h : d.R[q]? = some f) : ({ crashQ k d q with R := (crashQ k d q).R.set q (crashB k f) } : Dk) = crashQ k d (q + 1) := by
  have hq : q < d.R.length := by
    rcases Nat.lt_or_ge q d.R.length with h' | h'
    · exact h'
    · rw [List.getElem?_eq_none h'] at h; cases h
  have he : d.R[q] = f := by rw [List.getElem?_eq_getElem hq] at h; exact Option.some.inj h
  unfold crashQ
  simp only
  congr 1
  rw [List.set_append_right _ _ (by simp; omega)]
  simp only [List.length_map, List.length_take, Nat.min_eq_left (Nat.le_of_lt hq), Nat.sub_self]
  rw [List.drop_eq_getElem_cons hq, List.set_cons_zero, List.take_succ_eq_append_getElem hq, List.map_append, he]
  simp
theorem new_no {k : Int} (h : St W w X) (hk : k < 0 ∨ 4194304 < k) : Calls Tryz.prog 4 #[.int .i64 k] w fun e w' => e = .returned (.tuple #[.pointer none, .int .i64 1]) ∧ St W w' X := by
  have H0 := Lib.hid h
  by_cases h1 : k < 0
  · clear h hk
    go_enter Tryz.func4, Tryz.ntmps4
    go_wp2
    go_ret2
    exact ⟨rfl, H0.out⟩
  · have h2 : 4194304 < k := by omega
    clear h hk
    go_enter Tryz.func4, Tryz.ntmps4
    go_wp2
    go_ret2
    exact ⟨rfl, H0.out⟩
theorem new_yes {k : Int} (h : St W w X) (hk : ¬ (k < 0 ∨ 4194304 < k)) : Calls Tryz.prog 4 #[.int .i64 k] w fun e w' => ∃ p, e = .returned (.tuple #[.pointer (some ⟨p, 0, none⟩), .int .i64 0]) ∧ St W w' (aDisk p ⟨[], k, false⟩ :: X) := by
  have h1 : ¬ k < 0 := by omega
  have h2 : ¬ 4194304 < k := by omega
  have hmm := @run_makeMap Tryz.prog
  have HS := Lib.hid (show St W ((w.alloc (.map #[] 0)).alloc (.cells #[.int .i64 k, .map (some w.heap.size), .bool false] 49)) (aDisk (w.heap.size + 1) ⟨[], k, false⟩ :: X) from by
    have h3 := aBlk.new (aMap.new (P := Tryz.prog) (k := 9) h) 49 #[.int .i64 k, .map (some w.heap.size), .bool false]
    rw [show (w.alloc (.map #[] 0)).heap.size = w.heap.size + 1 by simp] at h3
    exact aDisk.shut (m := w.heap.size) (E := []) ⟨⟨List.Pairwise.nil, fun f hf => (by cases hf), by simp [usedF]; omega, ⟨by simp only; omega, by simp only; omega⟩, by simp⟩, rfl⟩ h3)
  clear h hk
  go_enter Tryz.func4, Tryz.ntmps4
  go_wp2
  go_ret2
  exact ⟨_, rfl, HS.out⟩
set_option maxRecDepth 20000 in
set_option maxHeartbeats 4000000 in
theorem crash_c {k : Int} (h : St W w (aDisk p d :: X)) (hk : -9223372036854775808 ≤ k ∧ k ≤ 9223372036854775807) : Calls Tryz.prog 15 #[.pointer (some ⟨p, 0, none⟩), .int .i64 k] w fun e w' => e = .returned (.int .i64 (crashF d k).1) ∧ St W w' (aDisk p (crashF d k).2 :: X) := by
  have H0 := Lib.hid h
  have HL := Lib.hid (list_c h)
  obtain ⟨m0, E0, hE0, h0⟩ := aDisk.open_ h
  have HC := Lib.hid (can_c (dkL.blk h0))
  unfold crashF
  cases ho : d.off with
  | true =>
    rw [ho] at HC
    rw [if_pos rfl]
    clear h hk h0 hE0 HL ho
    go_enter Tryz.func15, Tryz.ntmps15
    go_wp2_with (first | (go_at_call 35; (with_reducible refine HC.out.mono ?_); rintro e w1 ⟨rfl, rfl⟩))
    go_ret
    exact ⟨rfl, H0.out⟩
  | false =>
    rw [ho] at HC
    rw [if_neg (by simp)]
    have HD := Lib.hid hE0.1
    have HO := Lib.hid ho
    have HKB := Lib.hid hk
    clear h hk h0 hE0 H0
    obtain ⟨N, hN⟩ : ∃ N, d.R.length = N := ⟨_, rfl⟩
    have HN := Lib.hid hN
    have hNl : N ≤ 64 := by have := HD.out.many; omega
    have hNm : (d.R.map Fl.nm).length = N := by simp [hN]
    go_enter Tryz.func15, Tryz.ntmps15
    go_wp2_with (first
      | (go_at_call 35; (with_reducible refine HC.out.mono ?_); rintro e w1 ⟨rfl, rfl⟩)
      | (go_at_call 36; (with_reducible refine HL.out.mono ?_); rintro e w2 ⟨v2, rfl, hS⟩; unfold aStr at hS; rw [hNm] at hS; obtain ⟨A2, c2, rfl⟩ := St.rowSlice hS; have H2 := Lib.hid hS; clear hS))
    go_loopw [18] (fun i wr => ∃ q : Nat, q ≤ N ∧ i = .int .i64 q ∧ Hid (St W wr (aRow 9 1 (.slice A2 N c2) N ((d.R.map Fl.nm).map fun n => .string (bstr n)) :: aDisk p (crashQ k d q) :: X))) (fun i _ => N - (intOf i).toNat)
    case atStart => exact ⟨0, Nat.zero_le _, rfl, by have e : crashQ k d 0 = d := by { unfold crashQ; simp }; rw [e]; exact H2.out⟩
    case round =>
      obtain ⟨q, hq, rfl, HS⟩ := hrel
      clear HL HC H2 hN hNm
      by_cases hlt : q < N
      · have hqi : (q : Int) < N := by omega
        have hqd : q < d.R.length := by have := HN.out; omega
        obtain ⟨f, hf⟩ : ∃ f, d.R[q]? = some f := ⟨_, List.getElem?_eq_getElem hqd⟩
        obtain ⟨gA, hgA⟩ := St.rowSome HS.out (by omega)
        subst hgA
        have kn := HS.out.rowAt (j := q) (x := .string (bstr f.nm)) (by simp [hf])
        have hd := HS.out.swap
        obtain ⟨m, E, hE, hd⟩ := aDisk.open_ hd
        have hfq := crashQ_at (k := k) hf
        have hxx : ∃ x, E[q]? = some x ∧ x.1 = f := by
          rw [← hE.2] at hfq
          simp only [flsOf, List.getElem?_map, Option.map_eq_some_iff] at hfq
          exact hfq
        obtain ⟨x, hx, hxf⟩ := hxx
        have hs := hE.1.rise
        rw [← hE.2] at hs
        have hnl := names_le hd hE x.1 (by rw [← hE.2]; exact List.mem_map.2 ⟨x, List.mem_of_getElem? hx, rfl⟩)
        have hl := look_yes hd hnl (ix_self hs hx) hx
        have c1 := (dkL.blk hd).cell 1
        simp at c1
        have hfs : f.sure ≤ f.b.length := HD.out.sure f (List.mem_of_getElem? hf)
        have hok := set_ok (f' := crashB k f) hE.1 hfq (crashB_ok k hfs).1 (by rw [(crashB_ok k hfs).2.1]; exact Nat.le_refl _) (crashB_ok k hfs).2.2.1
        have hnx := crashQ_next (k := k) hf
        have hfl := small_file hE hx
        rw [hxf] at hnl hl hfl
        obtain ⟨A, c, hv⟩ := turn_open hd hx
        rw [hxf] at hv
        obtain ⟨A0, cc, e0, hbs⟩ := file_bs hE hx hd
        rw [hxf] at e0 hbs
        have hb := aBlk.get hv
        have c0 := hb.cell 0
        simp at c0
        obtain ⟨rfl, rfl⟩ : A0 = A ∧ cc = c := by rw [c0] at e0; simp at e0; exact ⟨e0.1.symm, e0.2.symm⟩
        have hb0 : 0 ≤ bareF k := by unfold bareF; split <;> (try split) <;> omega
        have hbm : bareF k ≤ 9223372036854775807 := by have := HKB.out; unfold bareF; split <;> (try split) <;> omega
        have hm1 := Int.emod_nonneg (bareF k) (b := (f.b.length : Int) - f.sure + 1) (by omega)
        have hm2 := Int.emod_lt_of_pos (bareF k) (b := (f.b.length : Int) - f.sure + 1) (by omega)
        obtain ⟨mo, hmo⟩ := Int.eq_ofNat_of_zero_le hm1
        have hmt : Int.tmod (bareF k) ((f.b.length : Int) - f.sure + 1) = (mo : Int) := by rw [Int.tmod_eq_emod_of_nonneg hb0]; exact hmo
        rw [hmo] at hm2
        obtain ⟨j, hj⟩ : ∃ j, f.sure + mo = j := ⟨_, rfl⟩
        have hjl : j ≤ f.b.length := by omega
        have hcb : crashB k f = ⟨f.nm, f.b.take j, j⟩ := by unfold crashB; simp only; rw [hmo, Int.toNat_natCast, hj]
        obtain ⟨A1, c3, s1, s2, hb1, _⟩ := hbs.cutTo j hjl
        rw [show (j : Int) = (f.sure : Int) + (mo : Int) by omega] at s1 s2
        have HCL := Lib.hid (fun (w' : World) (hw : B wr w') => sclone_c (hb1.later hw))
        have hlt2 : (f.b.take j).length = j := by rw [List.length_take]; omega
        have HV := Lib.hid (fun (w' w2 : World) (hw : B wr w') (hw2 : B w' w2) (v : Value) (hr : w2.ownsRow w'.heap.size 5 1 v (f.b.take j).length (cellsB (f.b.take j))) => ((hv.later hw).addRow hw2 hr))
        have HLJ := Lib.hid hlt2
        obtain ⟨y, g⟩ := x
        simp only at hxf
        subst hxf
        have HK := Lib.hid (fun (w' : World) (A' : Option Addr) (c' : Nat) (hS : St W w' (aRow 5 1 (.slice A' j c') j (cellsB (y.b.take j)) :: aBlk g 76 #[.slice A0 y.b.length cc, .int .i64 (y.sure : Int)] :: aRow 5 1 (.slice A0 y.b.length cc) y.b.length (cellsB y.b) :: aBlk p 49 #[.int .i64 (crashQ k d q).room, .map (some m), .bool (crashQ k d q).off] :: aMap Tryz.prog 9 m (dOf E) :: ((E.take q ++ E.drop (q + 1)).map aFile ++ (aRow 9 1 (.slice (some ⟨gA, 0, none⟩) N c2) N ((d.R.map Fl.nm).map fun n => .string (bstr n)) :: X)))) =>
          show St W ((w'.setCell ⟨g, 0, none⟩ (.slice A' j c')).setCell ⟨g, 1, none⟩ (.int .i64 (j : Int))) (aRow 9 1 (.slice (some ⟨gA, 0, none⟩) N c2) N ((d.R.map Fl.nm).map fun n => .string (bstr n)) :: aDisk p (crashQ k d (q + 1)) :: X) from by
          have := turn_both (w := w') (A' := A') (c' := c') (n' := j) (x := (y, g)) (f' := crashB k y) hE hx (crashB_ok k hfs).1 hok (by rw [hcb]; exact hS) (by rw [hcb]; exact hlt2.symm)
          rw [hnx] at this
          rw [hcb] at this
          exact this.swap)
        have HBC := Lib.hid (fun (w' : World) (hw : B wr w') => show w'.cell? ⟨g, 0, none⟩ = some (.slice A0 y.b.length cc) ∧ w'.cell? ⟨g, 1, none⟩ = some (.int .i64 (y.sure : Int)) ∧ w'.frozen? ⟨g, 0, none⟩ = false ∧ w'.frozen? ⟨g, 1, none⟩ = false from by
          have hb2 := hb.later hw
          have k0 := hb2.cell 0
          have k1 := hb2.cell 1
          simp at k0 k1
          exact ⟨k0, k1, hb2.frozen 0, hb2.frozen 1⟩)
        have l1 : ∀ w', B wr w' → w'.cell? ⟨g, 0, none⟩ = some (.slice A0 y.b.length cc) := fun w' hw => (HBC.out w' hw).1
        have l2 : ∀ w', B wr w' → w'.cell? ⟨g, 1, none⟩ = some (.int .i64 (y.sure : Int)) := fun w' hw => (HBC.out w' hw).2.1
        have HBR := Lib.hid (fun w => bare_c w k HKB.out)
        have hw1 : IntKind.i64.wrap ((y.b.length : Int) - (y.sure : Int)) = (y.b.length : Int) - (y.sure : Int) := wrap_sub (by omega) (by omega)
        have hw2 : IntKind.i64.wrap ((y.b.length : Int) - (y.sure : Int) + 1) = (y.b.length : Int) - (y.sure : Int) + 1 := wrap_add (by omega) (by omega)
        have hw3 : IntKind.i64.wrap ((y.sure : Int) + (mo : Int)) = (y.sure : Int) + (mo : Int) := wrap_add (by omega) (by omega)
        have hdv : ((y.b.length : Int) - (y.sure : Int) + 1 == 0) = false := by rw [beq_eq_false_iff_ne]; omega
        have hdv2 : ¬ ((y.b.length : Int) - (y.sure : Int) + 1 = 0) := by omega
        have hdv3 : 0 < (y.b.length : Int) - (y.sure : Int) + 1 := by omega
        have hsi : (y.sure : Int) ≤ (y.b.length : Int) := by omega
        have hsm : (y.sure : Int) + (mo : Int) ≤ (y.b.length : Int) := by omega
        have hyl : (y.b.length : Int) ≤ 4194304 := by omega
        generalize bareF k = bk at *
        clear hd hE hfq hx hs hnl hok hnx hv hb hbs e0 hb1 hcb hlt2 hf hqd hm1 hm2 hmo HS
        go_wp2_with fail
        go_region_held3 (fun w' => B wr w') (first | assumption | exact (Below.refl _ _).drew | exact B.trans (by assumption) (Below.refl _ _).drew) (first
          | (go_at_call 37; (with_reducible refine (HBR.out _).mono ?_); rintro e w3 ⟨rfl, rfl⟩))
        all_goals
          have hlast := ‹B wr _›
          go_wp2_with fail
          generalize wr.drew = w5 at *
          obtain ⟨k0, k1, f0, f1⟩ := HBC.out _ hlast
          have HL5 := Lib.hid (B.trans hlast (Below.refl _ _).drew)
          go_region_with (first
            | (go_at_call 8; (with_reducible refine (HCL.out _ HL5.out).mono ?_); rintro e w6 ⟨v6, rfl, r6, hb6⟩; obtain ⟨k0', k1', f0', f1'⟩ := HBC.out _ (HL5.out.trans hb6); have hS := HV.out _ _ HL5.out hb6 _ r6; simp only [HLJ.out] at hS; obtain ⟨A6, c6, rfl⟩ := St.rowSlice hS; have H6 := Lib.hid hS; clear r6 hb6 hS k0 k1 f0 f1))
        all_goals
          go_wp2_with fail
          go_roundw
          case rel => exact ⟨q + 1, by omega, by go_num, HK.out _ _ _ H6.out⟩
          case measure => simp [intOf]; omega
      · have hqe : q = N := by omega
        have hqi : ¬ (q : Int) < N := by omega
        subst hqe
        have e : crashQ k d q = { d with R := d.R.map (crashB k) } := by unfold crashQ; rw [List.take_of_length_le (by have := HN.out; omega), List.drop_eq_nil_of_le (by have := HN.out; omega), List.append_nil]
        have hd := HS.out.drop
        rw [e] at hd
        obtain ⟨m, E, hE, hd⟩ := aDisk.open_ hd
        have c2 := (dkL.blk hd).cell 2
        have f2 := (dkL.blk hd).frozen 2
        simp at c2
        have HF := Lib.hid (dk_off hd hE true)
        clear hd hE e HS
        go_wp2_with fail
        go_ret
        exact ⟨rfl, HF.out⟩
end
end Go.Proofs.YtoikjgcggmemaaaGreatDoor

/- The program's disk: Clone. -/
namespace Go.Proofs.YtoikjgcggmemaaaGreatDoor
open Go.RowKit Go.Maps Go.Deep
set_option linter.unusedVariables false

theorem ixF_no {n : List UInt8} {R : List Fl} (h : ∀ f ∈ R, f.nm ≠ n) : ixF n R = none := by
  cases hi : ixF n R with
  | none => rfl
  | some i =>
    obtain ⟨f, h1, h2, _⟩ := ixF_some hi
    exact absurd h2 (h f (List.mem_of_getElem? h1))
/-- the files that came -/
def cameF (left : Lit → Bool) (R : List Fl) : List Fl := R.filter (fun f => !left (.string f.nm))
def cameD (left : Lit → Bool) (d : Dk) : Dk := { d with R := cameF left d.R }
theorem came_start (E : List (Fl × Nat)) : cameF (has (dOf E)) (flsOf E) = [] := by
  unfold cameF
  rw [List.filter_eq_nil_iff]
  intro f hf
  obtain ⟨x, hx, rfl⟩ := List.mem_map.1 hf
  simp [has_mem hx]
theorem came_end {left : Lit → Bool} (h : ∀ kl, left kl = false) (R : List Fl) : cameF left R = R := by
  unfold cameF
  rw [List.filter_eq_self]
  intro f _
  simp [h]
theorem posF_zero {n : List UInt8} : ∀ {R : List Fl}, (∀ f ∈ R, bytesBefore n f.nm = true) → posF n R = 0
  | [], _ => rfl
  | y :: r, h => by
    have h1 := h y (by simp)
    have h2 : bytesBefore y.nm n = false := by
      cases hk : bytesBefore y.nm n with
      | false => rfl
      | true => have := bb_trans _ _ _ h1 hk; rw [bb_irr] at this; cases this
    simp [posF, h2]
theorem came_step {left : Lit → Bool} {x : Fl} (hl : left (.string x.nm) = true) : ∀ {R : List Fl}, R.Pairwise (fun a b => bytesBefore a.nm b.nm = true) → x ∈ R → insF x (cameF left R) = cameF (fun z => left z && !z.sameKey (.string x.nm)) R
  | [], _, h => by cases h
  | y :: r, hs, h => by
    rw [List.pairwise_cons] at hs
    rcases List.mem_cons.1 h with e | h'
    · subst e
      have e1 : cameF (fun z => left z && !z.sameKey (.string x.nm)) r = cameF left r := by
        unfold cameF
        apply List.filter_congr
        intro f hf
        have : (f.nm == x.nm) = false := by
          rw [beq_eq_false_iff_ne]
          intro e
          have := hs.1 f hf
          rw [e, bb_irr] at this; cases this
        simp [same_str, this]
      have e2 : posF x.nm (cameF left r) = 0 := posF_zero fun f hf => hs.1 f ((List.mem_filter.1 hf).1)
      have e3 : cameF left (x :: r) = cameF left r := by simp [cameF, hl]
      have e4 : cameF (fun z => left z && !z.sameKey (.string x.nm)) (x :: r) = x :: cameF (fun z => left z && !z.sameKey (.string x.nm)) r := by simp [cameF, same_str]
      rw [e3, e4, e1]
      unfold insF
      rw [e2]; rfl
    · have hb := hs.1 x h'
      have hne : (y.nm == x.nm) = false := by
        rw [beq_eq_false_iff_ne]
        intro e
        rw [e, bb_irr] at hb; cases hb
      have ih := came_step hl hs.2 h'
      cases hy : left (.string y.nm) with
      | true =>
        have e3 : cameF left (y :: r) = cameF left r := by simp [cameF, hy]
        have e4 : cameF (fun z => left z && !z.sameKey (.string x.nm)) (y :: r) = cameF (fun z => left z && !z.sameKey (.string x.nm)) r := by simp [cameF, same_str, hy, hne]
        rw [e3, e4, ih]
      | false =>
        have e3 : cameF left (y :: r) = y :: cameF left r := by simp [cameF, hy]
        have e4 : cameF (fun z => left z && !z.sameKey (.string x.nm)) (y :: r) = y :: cameF (fun z => left z && !z.sameKey (.string x.nm)) r := by simp [cameF, same_str, hy]
        rw [e3, e4, ← ih]
        unfold insF
        simp [posF, hb]
theorem came_no {left : Lit → Bool} {x : Fl} (hl : left (.string x.nm) = true) (R : List Fl) : ∀ f ∈ cameF left R, f.nm ≠ x.nm := fun f hf e => by
  have := (List.mem_filter.1 hf).2
  rw [e, hl] at this; cases this
theorem used_filter (p : Fl → Bool) : ∀ R : List Fl, usedF (R.filter p) ≤ usedF R
  | [] => Nat.le_refl _
  | x :: r => by
    have ih := used_filter p r
    unfold usedF at ih ⊢
    cases h : p x <;> simp [h] <;> omega
theorem came_ok {d : Dk} (h : d.ok) (left : Lit → Bool) : (cameD left d).ok := by
  refine ⟨h.rise.sublist List.filter_sublist, fun f hf => h.sure f ((List.mem_filter.1 hf).1), ?_, h.room, ?_⟩
  · have := h.used
    have := used_filter (fun f => !left (.string f.nm)) d.R
    show ((usedF (cameF left d.R) : Nat) : Int) ≤ d.room
    unfold cameF; omega
  · have := h.many
    have := List.length_filter_le (fun f => !left (.string f.nm)) d.R
    show (cameF left d.R).length ≤ 64
    unfold cameF; omega
section
variable {W w : World} {p m : Nat} {d : Dk} {E : List (Fl × Nat)} {X : List Asn} {n : List UInt8}
/-- a file is put into a disk's map -/
theorem dk_put {x : Fl × Nat} (h : St W w (aFile x :: aDisk p d :: X)) (hn : x.1.nm.length ≤ maxLen) (hno : ∀ f ∈ d.R, f.nm ≠ x.1.nm) (hok : ({ d with R := insF x.1 d.R } : Dk).ok) {m : Nat} (hm : w.cell? ⟨p, 1, none⟩ = some (.map (some m))) :
    ∃ w', (Instr.mapUpdate 47 (.map (some m)) (.string (bstr x.1.nm)) (.pointer (some ⟨x.2, 0, none⟩))).run Tryz.prog w = .ok () w' ∧ St W w' (aDisk p { d with R := insF x.1 d.R } :: X) := by
  obtain ⟨m2, E, hE, h⟩ := aDisk.open_ h.swap
  have hb := dkL.blk h
  have c1 := hb.cell 1
  simp at c1
  rw [hm] at c1
  injection c1 with c1
  injection c1 with c1
  injection c1 with c1
  subst c1
  have h2 : St W w (aMap Tryz.prog 9 m (dOf E) :: aBlk p 49 #[.int .i64 d.room, .map (some m), .bool d.off] :: aFile x :: (E.map aFile ++ X)) := h.perm (by
    unfold dkL
    simp only [List.cons_append]
    exact (List.Perm.swap _ _ _).trans (List.Perm.cons _ (List.Perm.cons _ List.perm_middle)))
  have hl := (many_E hE).1
  obtain ⟨w', r1, r2, _⟩ := aMap.store h2 ⟨_, rfl, by simp; unfold maxLen; omega⟩ strLaw Tryz.underlying47 (keyN hn) x.2
  refine ⟨w', r1, ?_⟩
  have hs := hE.1.rise
  rw [← hE.2] at hs
  have hi' : ixF x.1.nm (flsOf E) = none := by rw [hE.2]; exact ixF_no hno
  rw [show (dOf E).put (.string x.1.nm) (.lit (.int .i64 (x.2 : Int))) = dOf (insE x E) by
    have := dOf_put hs x.1 x.2
    rw [dropE_none hi'] at this
    exact this] at r2
  refine aDisk.shut (m := m) (E := insE x E) ⟨hok, by rw [insE_fls, hE.2]⟩ (r2.perm ?_)
  unfold dkL
  have h4 := ((insE_perm x E).map aFile).append_right X
  simp only [List.cons_append, List.map_cons] at h4 ⊢
  refine (List.Perm.trans ?_ (List.Perm.cons _ (List.Perm.cons _ h4.symm)))
  exact List.Perm.swap _ _ _
/-- a disk without files -/
theorem aDisk.empty (h : St W w X) (d : Dk) (hok : d.ok) : St W ((w.alloc (.map #[] 0)).alloc (.cells #[.int .i64 d.room, .map (some w.heap.size), .bool d.off] 49)) (aDisk (w.heap.size + 1) { d with R := [] } :: X) := by
  have h1 := aMap.new (P := Tryz.prog) (k := 9) h
  have h2 := aBlk.new h1 49 #[.int .i64 d.room, .map (some w.heap.size), .bool d.off]
  have e : (w.alloc (.map #[] 0)).heap.size = w.heap.size + 1 := by show (w.heap.push _).size = _; simp
  rw [e] at h2
  refine aDisk.shut (m := w.heap.size) (E := []) ⟨⟨List.Pairwise.nil, fun f hf => (by cases hf), ?_, hok.room, (by simp)⟩, rfl⟩ h2
  show ((usedF [] : Nat) : Int) ≤ d.room
  have := hok.room
  simp [usedF]
  omega
end
end Go.Proofs.YtoikjgcggmemaaaGreatDoor

/- The program's disk: Clone, the walk. -/
namespace Go.Proofs.YtoikjgcggmemaaaGreatDoor
open Go.RowKit Go.Maps Go.Deep
set_option linter.unusedVariables false

section
variable {P : Program} {w w' : World} {ops : Array Oper} {o : Oper} {a : Act} {Q : Exit → Act → World → Prop} {K : Act → World → Prop} {E : Prop}
theorem step_mapUpdate_run (hgd : o.guard = none) (m x v : Operand) (t : TypeId) (hop : o.op = Op.mapUpdate t m x v) {mv kv vv : Value} (hm : a.eval m = mv) (hx : a.eval x = kv) (hv : a.eval v = vv)
    (hrun : (Instr.mapUpdate t mv kv vv).run P w = .ok () w') (h : K (a.put o.dst undef) w') : if Region.wanted o (yielded ops a.tmps) = true then Oper.wp P o a w K Q else E := by
  have hw : Region.wanted o (yielded ops a.tmps) = true := by simp [Region.wanted, hgd]
  rw [if_pos hw]
  unfold Oper.wp
  simp [execOp, hop, hm, hx, hv, hrun, Result.andThen]
  exact h
end
section
variable {W w : World} {p m : Nat} {d : Dk} {E : List (Fl × Nat)} {X : List Asn} {n : List UInt8}
/-- what the clone's walk leaves, seen from its own beginning -/
theorem St.under {L M : List Asn} {w' : World} (h : St W w L) (k : St w w' M) : St W w' (M ++ L) := by
  obtain ⟨hb, h2⟩ := h
  obtain ⟨kb, k2⟩ := k
  refine ⟨hb.trans kb, Sep.join (own := fun b => w.heap.size ≤ b) (fun b hb' => Nat.le_trans hb.size hb') k2 ?_⟩
  exact (h2.ext (Ext.of_B (own := fun _ => False) kb) (fun _ _ _ => id)).mono (fun b _ hb' => ⟨hb'.1, by have := hb'.2; omega⟩)
theorem nm_len (hE : DkE d (m, E)) (h : ∀ f ∈ d.R, f.nm.length ≤ maxLen) {i : Nat} {x : Fl × Nat} (hx : E[i]? = some x) : x.1.nm.length ≤ maxLen := h x.1 (by rw [← hE.2]; exact List.mem_map.2 ⟨x, List.mem_of_getElem? hx, rfl⟩)
set_option maxRecDepth 20000 in
set_option maxHeartbeats 4000000 in
theorem clone_c (h : St W w (aDisk p d :: X)) (hnm : ∀ f ∈ d.R, f.nm.length ≤ maxLen) : Calls Tryz.prog 19 #[.pointer (some ⟨p, 0, none⟩)] w fun e w' => ∃ c, e = .returned (.pointer (some ⟨c, 0, none⟩)) ∧ St W w' (aDisk c d :: aDisk p d :: X) := by
  have H0 := Lib.hid h
  obtain ⟨m, E, hE, h⟩ := aDisk.open_ h
  have hb := dkL.blk h
  have c0 := hb.cell 0
  have c1 := hb.cell 1
  have c2 := hb.cell 2
  simp at c0 c1 c2
  have HN := Lib.hid (none_c hb)
  have hs := hE.1.rise
  rw [← hE.2] at hs
  have HS := Lib.hid hs
  have HE := Lib.hid hE
  obtain ⟨n0, hmap⟩ := aMap.get h.swap
  have HM := Lib.hid hmap
  have HML := Lib.hid hmap.lt
  have HF := Lib.hid (show ∀ (w' : World) (i : Nat) (x : Fl × Nat), B w w' → E[i]? = some x → ∃ A c, w'.cell? ⟨x.2, 0, none⟩ = some (.slice A x.1.b.length c) ∧ w'.cell? ⟨x.2, 1, none⟩ = some (.int .i64 (x.1.sure : Int)) ∧ Bs w (.slice A x.1.b.length c) x.1.b ∧ x.2 < w.heap.size from fun w' i x hb hx => by
    obtain ⟨Y, hY⟩ := rest.pick (L := [_, _]) h hx
    obtain ⟨A, c, k1, k2⟩ := aFile.cells hY
    obtain ⟨A', c', z1, z2⟩ := file_bs hE hx h
    rw [k1] at z1
    injection z1 with z1
    obtain ⟨v, hv, _⟩ := aFile.get hY
    refine ⟨A, c, hb.cell k1, hb.cell k2, by rw [z1]; exact z2, hv.lt⟩)
  have HNM := Lib.hid (fun (i : Nat) (x : Fl × Nat) (hx : E[i]? = some x) => nm_len hE hnm hx)
  have HIN := Lib.hid (fun (i : Nat) (x : Fl × Nat) (hx : E[i]? = some x) => show x.1 ∈ d.R by rw [← hE.2]; exact List.mem_map.2 ⟨x, List.mem_of_getElem? hx, rfl⟩)
  have HA0 := Lib.hid (fun (w' : World) (hw : B w w') => aDisk.empty ((St.nil w).later hw) d hE.1)
  have hmm := @run_makeMap Tryz.prog
  have c00 := (B.alloc' w (.map #[] 0)).cell c0
  have c02 := (B.alloc' w (.map #[] 0)).cell c2
  clear h hE hb hmap hs hnm
  go_enter Tryz.func19, Tryz.ntmps19
  go_wp2_with (first
    | (go_at_call 38; (with_reducible refine HN.out.mono ?_); rintro e w1 ⟨rfl, rfl⟩))
  go_region
  all_goals
    have HI := Lib.hid ((HA0.out w (Below.refl _ _)).later (Below.refl _ _).drew)
    have c11 := HI.out.b.cell c1
    clear HA0 c0 c1 c2 c00 c02 hmm
    generalize ((w.alloc (.map #[] 0)).alloc (.cells #[.int .i64 d.room, .map (some w.heap.size), .bool d.off] 49)).drew = w1 at *
    generalize w.heap.size + 1 = cl at *
    go_wp2_with (first
      | (at_range; refine wpList_range_R rfl (.tmp 22) rfl HM.out rfl HI.out ?_; intro w2 it1 hR hS; have HR1 := Lib.hid hR; have HS1 := Lib.hid hS; clear hR hS))
    go_frame
    generalize w1.heap.size = r at *
    go_loopw [4] (fun s wr => ∃ (left : Lit → Bool) (cnt : Nat) (it : Obj), s = s ∧ Hid (∀ kl, left kl = true → has (dOf E) kl = true) ∧ Hid (Rng w m r E left cnt it) ∧ Hid (St w wr [aObj r it, aDisk cl (cameD left d)])) (fun _ wr => wr.rangeLeft m r)
    case atStart => exact ⟨_, _, it1, rfl, fun kl h => h, HR1.out, by
      have := HS1.out
      have e : cameD (has (dOf E)) d = { d with R := [] } := by unfold cameD; rw [← HE.out.2, came_start]
      rw [e]; exact this⟩
    case round =>
      obtain ⟨left, cnt, it, _, HL, HR, HW⟩ := hrel
      have HLe := Lib.hid (HR.out.left_ HML.out HW.out)
      clear HR1 HS1 HI
      go_wp2_with (first
        | (at_next; refine wpList_next_R rfl (.tmp 23) rfl HS.out HL.out HML.out rfl HR.out HW.out ?_ ?_))
      · intro hl
        have e : cameD left d = d := by unfold cameD; rw [came_end hl]
        have HZ := HW.out.drop
        rw [e] at HZ
        have HZ := Lib.hid (H0.out.under HZ)
        clear e hl
        go_wp2_with fail
        go_ret
        exact ⟨_, rfl, HZ.out⟩
      · intro i y g w2 cnt2 it2 hx hlx hR2 hS2 hlt hen
        have HX := Lib.hid hx
        obtain ⟨A, c, k0, k1, hbs, hgl⟩ := HF.out w2 i (y, g) hS2.b hx
        have E1 := Lib.hid (came_step hlx (by rw [← HE.out.2]; exact HS.out) (HIN.out i _ hx))
        have EN := Lib.hid (came_no hlx d.R)
        have ENM := Lib.hid (HNM.out i _ hx)
        have HR2 := Lib.hid hR2
        have HS2 := Lib.hid hS2
        have HLT := Lib.hid hlt
        have HC := Lib.hid (sclone_c (hbs.later (hS2.b.trans (Below.refl _ _).drew)))
        obtain ⟨m2, E2, hE2, h2⟩ := aDisk.open_ hS2.drop
        have c21 := (dkL.blk h2).cell 1
        simp at c21
        simp only at k0 k1 hen HC E1 EN ENM
        obtain ⟨nm, bs, su⟩ := y
        simp only at k0 k1 hen HC E1 EN ENM
        have e5 : ({ cameD left d with R := insF ⟨nm, bs, su⟩ (cameD left d).R } : Dk) = cameD (fun z => left z && !z.sameKey (.string nm)) d := by unfold cameD; rw [E1.out]
        have HP := Lib.hid (fun (w3 : World) (v3 : Value) (hS : St w w3 (aBy v3 bs :: aObj r it2 :: aDisk cl (cameD left d) :: [])) (hc : w3.cell? ⟨cl, 1, none⟩ = some (.map (some m2))) => show ∃ w4, (Instr.mapUpdate 47 (.map (some m2)) (.string (bstr nm)) (.pointer (some ⟨w3.heap.size, 0, none⟩))).run Tryz.prog (w3.alloc (.cells #[v3, .int .i64 (su : Int)] 76)) = .ok () w4 ∧ St w w4 [aDisk cl (cameD (fun z => left z && !z.sameKey (.string nm)) d), aObj r it2] from by
          have h4 := aFile.shut (x := (⟨nm, bs, su⟩, w3.heap.size)) (aBlk.new hS 76 #[v3, .int .i64 (su : Int)])
          have h5 := dk_put h4.rot3.swap ENM.out EN.out (by rw [e5]; exact came_ok HE.out.1 _) ((B.alloc' w3 (.cells #[v3, .int .i64 (su : Int)] 76)).cell hc)
          rw [e5] at h5
          exact h5)
        clear hx hlx hR2 hS2 hlt hE2 h2 hbs HW HR e5
        go_wp2_with fail
        go_region_law (first
          | (refine step_call rfl 8 #[.tmp 37] #[32] rfl Tryz.call8 HC.out rfl ?_; rintro e w3 ⟨v3, rfl, r3, hb3⟩; obtain ⟨A3, c3, rfl⟩ := own_slice r3; refine ⟨_, rfl, ?_⟩; have H3 := Lib.hid ((HS2.out.later (Below.refl _ _).drew).addRow hb3 r3); have k31 := B.cell (B.trans (Below.refl _ _).drew hb3) k1; have c31 := B.cell (B.trans (Below.refl _ _).drew hb3) c21; have c32 := (B.alloc' w3 (.cells #[.slice A3 bs.length c3, .int .i64 (su : Int)] 76)).cell c31; obtain ⟨w4, hrun, h4⟩ := HP.out _ _ H3.out c31; have H4 := Lib.hid h4; clear h4 r3 hb3)
          | (refine step_mapUpdate_run rfl (.tmp 32) (.tmp 33) (.tmp 44) 47 rfl rfl rfl rfl hrun ?_))
        all_goals
          go_wp2_with fail
          go_roundw
          case rel => exact ⟨_, cnt2, it2, trivial, fun kl hk => HL.out kl (by simp at hk; exact hk.1), HR2.out, H4.out.swap⟩
          case measure => rw [HR2.out.left_ HML.out H4.out.swap, HLe.out]; exact HLT.out
end
end Go.Proofs.YtoikjgcggmemaaaGreatDoor

/- The reference's disk as an object; its methods that only read. -/
namespace Go.Proofs.YtoikjgcggmemaaaGreatDoor
open Go.RowKit Go.Maps Go.Deep
set_option linter.unusedVariables false

/-- a row of files: name, bytes, how many are synced -/
def cellsF : List Value → List Fl → List Value
  | v :: vs, f :: R => .string (bstr f.nm) :: v :: .int .i64 (f.sure : Int) :: cellsF vs R
  | _, _ => []
theorem cellsF_len : ∀ {vs : List Value} {R : List Fl}, vs.length = R.length → (cellsF vs R).length = R.length * 3
  | [], [], _ => rfl
  | v :: vs, f :: R, h => by
    have := cellsF_len (vs := vs) (R := R) (by simpa using h)
    simp only [cellsF, List.length_cons, this]; omega
  | [], _ :: _, h => by simp at h
  | _ :: _, [], h => by simp at h
theorem cellsF_at : ∀ {vs : List Value} {R : List Fl} {i : Nat} {v : Value} {f : Fl}, vs[i]? = some v → R[i]? = some f →
    (cellsF vs R)[i * 3]? = some (.string (bstr f.nm)) ∧ (cellsF vs R)[i * 3 + 1]? = some v ∧ (cellsF vs R)[i * 3 + 2]? = some (.int .i64 (f.sure : Int))
  | [], _, i, v, f, h, _ => by simp at h
  | _ :: _, [], i, v, f, _, h => by simp at h
  | u :: vs, g :: R, 0, v, f, h, k => by
    simp at h k
    subst h k
    exact ⟨rfl, rfl, rfl⟩
  | u :: vs, g :: R, i + 1, v, f, h, k => by
    have := cellsF_at (vs := vs) (R := R) (i := i) (by simpa using h) (by simpa using k)
    rw [show (i + 1) * 3 = i * 3 + 3 by omega]
    exact this
theorem cellsF_setB : ∀ {vs : List Value} {R : List Fl} (i : Nat) (v : Value), (cellsF vs R).set (i * 3 + 1) v = cellsF (vs.set i v) R
  | [], R, i, v => by simp [cellsF]
  | _ :: _, [], i, v => by cases i <;> simp [cellsF]
  | u :: vs, g :: R, 0, v => rfl
  | u :: vs, g :: R, i + 1, v => by
    have := cellsF_setB (vs := vs) (R := R) i v
    rw [show (i + 1) * 3 + 1 = i * 3 + 1 + 1 + 1 + 1 by omega]
    simp only [cellsF, List.set_cons_succ, this]
theorem cellsF_setS : ∀ {vs : List Value} {R : List Fl} (i : Nat) (f : Fl) (s : Nat), R[i]? = some f → (cellsF vs R).set (i * 3 + 2) (.int .i64 (s : Int)) = cellsF vs (R.set i ⟨f.nm, f.b, s⟩)
  | [], R, i, f, s, _ => by simp [cellsF]
  | _ :: _, [], i, f, s, h => by simp at h
  | u :: vs, g :: R, 0, f, s, h => by simp at h; subst h; rfl
  | u :: vs, g :: R, i + 1, f, s, h => by
    have := cellsF_setS (vs := vs) (R := R) i f s (by simpa using h)
    rw [show (i + 1) * 3 + 2 = i * 3 + 2 + 1 + 1 + 1 by omega]
    simp only [cellsF, List.set_cons_succ, this]
/-- cells see names and what is synced alone -/
theorem cellsF_bytes : ∀ {vs : List Value} {R : List Fl} {i : Nat} {f : Fl} (b : List UInt8), R[i]? = some f → cellsF vs (R.set i ⟨f.nm, b, f.sure⟩) = cellsF vs R
  | [], R, i, f, b, _ => by simp [cellsF]
  | _ :: _, [], i, f, b, h => by simp at h
  | u :: vs, g :: R, 0, f, b, h => by simp at h; subst h; rfl
  | u :: vs, g :: R, i + 1, f, b, h => by
    have := cellsF_bytes (vs := vs) (R := R) (i := i) b (by simpa using h)
    simp only [cellsF, List.set_cons_succ, this]
/-- the i-th file's block -/
def inB (vs : List Value) (R : List Fl) (i g : Nat) : Prop := ∃ f v, R[i]? = some f ∧ vs[i]? = some v ∧ f.b ≠ [] ∧ v.ownBlock = some g
/-- no two files in one block -/
def apart (vs : List Value) (R : List Fl) : Prop := ∀ i j g : Nat, inB vs R i g → inB vs R j g → i = j
theorem apart_of {vs vs' : List Value} {R R' : List Fl} (h : apart vs R) (σ : Nat → Nat) (h1 : ∀ i g, inB vs' R' i g → inB vs R (σ i) g) (h2 : ∀ i j g, inB vs' R' i g → inB vs' R' j g → σ i = σ j → i = j) : apart vs' R' :=
  fun i j g a b => h2 i j g a b (h (σ i) (σ j) g (h1 i g a) (h1 j g b))
theorem inB_set {vs : List Value} {R : List Fl} {i j g : Nat} {v' : Value} {f' : Fl} (h : inB (vs.set i v') (R.set i f') j g) : (j = i ∧ f'.b ≠ [] ∧ v'.ownBlock = some g) ∨ (j ≠ i ∧ inB vs R j g) := by
  obtain ⟨f, v, k1, k2, k3, k4⟩ := h
  rw [List.getElem?_set] at k1 k2
  by_cases e : i = j
  · subst e
    rw [if_pos rfl] at k1 k2
    split at k1
    · split at k2
      · obtain rfl := Option.some.inj k1
        obtain rfl := Option.some.inj k2
        exact .inl ⟨rfl, k3, k4⟩
      · cases k2
    · cases k1
  · rw [if_neg e] at k1 k2
    exact .inr ⟨fun h => e h.symm, f, v, k1, k2, k3, k4⟩
theorem inB_setR {vs : List Value} {R : List Fl} {i j g : Nat} {f f' : Fl} (h : inB vs (R.set i f') j g) (hf : R[i]? = some f) (he : f'.b = f.b) : inB vs R j g := by
  obtain ⟨x, v, k1, k2, k3, k4⟩ := h
  rw [List.getElem?_set] at k1
  by_cases e : i = j
  · subst e
    rw [if_pos rfl] at k1
    split at k1
    · obtain rfl := Option.some.inj k1
      exact ⟨f, v, hf, k2, by rw [← he]; exact k3, k4⟩
    · cases k1
  · rw [if_neg e] at k1
    exact ⟨x, v, k1, k2, k3, k4⟩
/-- the files' bytes -/
def aEls (vs : List Value) (R : List Fl) : Asn where
  at_ own w := (∀ (i : Nat) (f : Fl), R[i]? = some f → ∃ v, vs[i]? = some v ∧ Bs w v f.b ∧ ∀ g, v.ownBlock = some g → f.b ≠ [] → own g) ∧ apart vs R
  ext h hx hd := ⟨fun i f hf => by
    obtain ⟨v, h1, h2, h3⟩ := h.1 i f hf
    exact ⟨v, h1, h2.ext hx (fun g hg hne => hd g (h3 g hg hne)), h3⟩, h.2⟩
  bound h := ⟨fun i f hf => by
    obtain ⟨v, h1, h2, h3⟩ := h.1 i f hf
    exact ⟨v, h1, h2, fun g hg hne => ⟨h3 g hg hne, h2.lt hne hg⟩⟩, h.2⟩
def RdE (d : Dk) (x : Value × List Value) : Prop := d.ok ∧ x.2.length = d.R.length
section
variable {W w : World} {p m : Nat} {d : Dk} {X : List Asn} {n : List UInt8}
theorem St.row3 {e : TypeId} {g n c : Nat} {xs : List Value} (h : St W w (aRow e 3 (.slice (some ⟨g, 0, none⟩) n c) n xs :: X)) {j : Nat} {x : Value} (hj : xs[j]? = some x) : w.cell? ⟨g, j, none⟩ = some x := by
  obtain ⟨own, hr, _⟩ := h.get
  obtain ⟨hl, A, cap, hv, _, _, hx⟩ := Rd.of_own hr.1
  injection hv with h1 _ _
  have := (hx _ h1.symm).2 j x hj
  rw [addr_at, Nat.zero_add] at this
  exact this
theorem St.row3Some {e : TypeId} {A : Option Addr} {n c : Nat} {xs : List Value} (h : St W w (aRow e 3 (.slice A n c) n xs :: X)) (hn : 0 < n) : ∃ g, A = some ⟨g, 0, none⟩ := by
  obtain ⟨own, hr, _⟩ := h.get
  rcases hr.1.2 with ⟨h1, h2⟩ | ⟨g, cap, cur, h1, _⟩
  · injection h1 with h1 h3 h4; omega
  · injection h1 with h1 h3 h4; exact ⟨g, h1⟩
theorem bstr_beq (a b : List UInt8) : (bstr a == bstr b) = (a == b) := by rw [beq_toListBytes, bstr_toList, bstr_toList]
def ixI (n : List UInt8) (R : List Fl) : Int := match ixF n R with | some i => (i : Int) | none => -1
theorem ixF_of {R : List Fl} {i : Nat} {f : Fl} (h1 : R[i]? = some f) (h2 : f.nm = n) (h3 : ∀ j, j < i → ∀ g, R[j]? = some g → g.nm ≠ n) : ixF n R = some i := by
  cases hx : ixF n R with
  | none => exact absurd h2 (ixF_none hx f (List.mem_of_getElem? h1))
  | some k =>
    obtain ⟨g, k1, k2, k3⟩ := ixF_some hx
    rcases Nat.lt_trichotomy i k with hk | hk | hk
    · exact absurd h2 (k3 i hk f h1)
    · rw [hk]
    · exact absurd k2 (h3 k hk g k1)
def mayI (d : Dk) (n : List UInt8) : Int := match (mayF d n).1 with | some i => (i : Int) | none => 0
end
end Go.Proofs.YtoikjgcggmemaaaGreatDoor

/- The reference's disk: Synced, Get, Sync, Restart, New, List. -/
namespace Go.Proofs.YtoikjgcggmemaaaGreatDoor
open Go.RowKit Go.Maps Go.Deep
set_option linter.unusedVariables false

section
variable {W w : World} {p m : Nat} {d : Dk} {X : List Asn} {n : List UInt8}
theorem St.rowFree {e : TypeId} {sz n g c : Nat} {xs : List Value} (h : St W w (aRow e sz (.slice (some ⟨g, 0, none⟩) n c) n xs :: X)) (j : Nat) : w.frozen? ⟨g, j, none⟩ = false := by
  obtain ⟨own, hr, _⟩ := h.get
  exact hr.1.frozenAt j
/-- a cell of a row stored -/
theorem St.rowSet {e : TypeId} {sz n g c : Nat} {xs : List Value} (h : St W w (aRow e sz (.slice (some ⟨g, 0, none⟩) n c) n xs :: X)) {j : Nat} (hj : j < n * sz) (u : Value) : St W (w.setCell ⟨g, j, none⟩ u) (aRow e sz (.slice (some ⟨g, 0, none⟩) n c) n (xs.set j u) :: X) := by
  obtain ⟨own, hr, ho, hback⟩ := h.focus
  refine hback _ (aRow e sz (.slice (some ⟨g, 0, none⟩) n c) n (xs.set j u)) ((Ext.refl own w).set (p := ⟨g, j, none⟩) (fun _ => hr.2 g rfl) u) ⟨?_, fun x hx => .inl (hr.2 x hx)⟩
  refine ⟨by rw [List.length_set]; exact hr.1.1, ?_⟩
  rcases hr.1.2 with ⟨h1, h2⟩ | ⟨g', cap, cur, h1, hg, hh, hc, hm, hs, ht⟩
  · injection h1 with h1 h3 h4; cases h1
  · have e1 : g' = g ∧ cap = c := by injection h1 with h1 h3 h4; injection h1 with h1; injection h1 with h1; exact ⟨h1.symm, h4.symm⟩
    obtain ⟨rfl, rfl⟩ := e1
    refine .inr ⟨g', cap, cur.setIfInBounds j u, rfl, hg, ?_, hc, hm, by simpa using hs, ?_⟩
    · exact Blk.set_ (t := e) (show Blk w g' e cur from hh) j u
    · rw [← ht]
      rw [Array.toList_setIfInBounds, List.take_set]
end
end Go.Proofs.YtoikjgcggmemaaaGreatDoor

/- The reference's disk: Restart, New, List. -/
namespace Go.Proofs.YtoikjgcggmemaaaGreatDoor
open Go.RowKit Go.Maps Go.Deep
set_option linter.unusedVariables false

theorem infoS : (Tryz.prog.info? 9).map (fun i => (i.zero, i.size, i.bytes)) = some (some (.string ⟨#[]⟩), 1, 16) := by kernel_rfl
section
variable {W w : World} {p m : Nat} {d : Dk} {X : List Asn} {n : List UInt8}
/-- a row made of nothing -/
theorem St.rowNil (h : St W w X) (e : TypeId) (sz : Nat) : St W w (aRow e sz (.slice none 0 0) 0 [] :: X) :=
  h.add (own := fun _ => False) (Below.refl _ _) ⟨ownNil w _ _ _, fun x hx => by cases hx⟩ (fun x hx => hx.elim)
theorem aEls.nil (h : St W w X) : St W w (aEls [] [] :: X) :=
  h.add (own := fun _ => False) (Below.refl _ _) ⟨fun i f hf => by simp at hf, fun i j g ⟨f, v, k, _⟩ => by simp at k⟩ (fun x hx => hx.elim)
end
end Go.Proofs.YtoikjgcggmemaaaGreatDoor

/- The reference's disk: a file's bytes replaced; Truncate. -/
namespace Go.Proofs.YtoikjgcggmemaaaGreatDoor
open Go.RowKit Go.Maps Go.Deep
set_option linter.unusedVariables false

section
variable {W w : World} {p m : Nat} {d : Dk} {X L : List Asn} {n : List UInt8} {A C D : Asn}
/-- two objects as one -/
theorem St.join (h : St W w (A :: C :: L)) (hc : ∀ o o', A.at_ o w → C.at_ o' w → (∀ b, o' b → ¬ o b) → D.at_ (fun x => o x ∨ o' x) w) : St W w (D :: L) := by
  obtain ⟨hb, o, h1, h2, o', h3, h4, h5⟩ := h
  exact ⟨hb, _, fun b hb => hb.elim (fun e => h1 b e) (fun e => ⟨(h3 b e).1.1, (h3 b e).2⟩), hc o o' h2 h4 (fun b hb => (h3 b hb).1.2), h5.mono (fun b _ hb => ⟨hb.1.1, fun e => e.elim hb.1.2 hb.2⟩)⟩
/-- 'v[:k:k]' -/
theorem Bs.cutCap {A : Option Addr} {n c : Nat} {bs : List UInt8} (h : Bs w (.slice A n c) bs) (k : Nat) (hk : k ≤ bs.length) : (∀ w' : World, (Instr.slice 32 (.slice A n c) none (some (.int .i64 (k : Int))) (some (.int .i64 (k : Int)))).run Tryz.prog w' = .ok (.slice A k k) w') ∧ (∀ w' : World, (Instr.sliceAt 32 (.slice A n c) none (some (.int .i64 (k : Int))) (some (.int .i64 (k : Int)))).run Tryz.prog w' = .ok (.slice A k k) w') ∧
    Bs w (.slice A k k) (bs.take k) := by
  obtain ⟨⟨A', cap, he, hn, hc, hm, hr⟩, hl⟩ := h
  injection he with e1 e2 e3
  subst e1 e2 e3
  have hs : ∀ w' : World, (Instr.slice 32 (.slice A bs.length c) none (some (.int .i64 (k : Int))) (some (.int .i64 (k : Int)))).run Tryz.prog w' = .ok (.slice A k k) w' := fun w' => by
    rw [run_slice_hm (P := Tryz.prog) (w := w') (t := 32) (a := A) (len := bs.length) (cap := c) (by rw [elem47]; exact Tryz.underlying32) .i64 .i64 (k : Int) (k : Int) (by omega) (by omega) (by omega), elem47, size5]
    simp [Result.andThen, sliced, Addr.add]
  refine ⟨hs, fun w' => ?_, ⟨⟨_, _, by rw [List.length_take, Nat.min_eq_left hk], fun e => ?_, by rw [List.length_take]; omega, by omega, fun ad had => ?_⟩, by rw [List.length_take]; omega⟩⟩
  · rw [run_sliceAt_slice (P := Tryz.prog) (w := w') (t := 32) (h := by rw [elem47]; exact Tryz.underlying32)]
    exact hs w'
  · obtain ⟨h7, rfl⟩ := hn e
    have : bs.length = 0 := by rw [h7]; rfl
    exact ⟨by simp [h7], by omega⟩
  · obtain ⟨h1, h2⟩ := hr ad had
    exact ⟨fun hne => h1 (fun e => hne (by rw [e]; simp)), fun j u hu => h2 j u (cellsB_take bs k j u hu)⟩
theorem els_set {own : Nat → Prop} {vs : List Value} {R : List Fl} {i : Nat} {v' : Value} {f' : Fl} (h : (aEls vs R).at_ own w) (hl : vs.length = R.length) (hv : Bs w v' f'.b) (ho : ∀ g, v'.ownBlock = some g → f'.b ≠ [] → own g)
    (hd : ∀ j g, inB vs R j g → v'.ownBlock = some g → f'.b ≠ [] → j = i) : (aEls (vs.set i v') (R.set i f')).at_ own w := by
  refine ⟨fun j x hx => ?_, fun j k g a b => ?_⟩
  · rw [List.getElem?_set] at hx
    split at hx
    · rename_i e
      subst e
      split at hx
      · rename_i hj
        have := Option.some.inj hx
        subst this
        exact ⟨v', by rw [List.getElem?_set, if_pos rfl, if_pos (by omega)], hv, ho⟩
      · cases hx
    · rename_i e
      obtain ⟨v, k1, k2, k3⟩ := h.1 j x hx
      exact ⟨v, by rw [List.getElem?_set, if_neg e]; exact k1, k2, k3⟩
  · rcases inB_set a with ⟨e1, a1, a2⟩ | ⟨e1, a1⟩
    · rcases inB_set b with ⟨e2, b1, b2⟩ | ⟨e2, b1⟩
      · rw [e1, e2]
      · exact absurd (hd k g b1 a2 a1) e2
    · rcases inB_set b with ⟨e2, b1, b2⟩ | ⟨e2, b1⟩
      · exact absurd (hd j g a1 b2 b1) e1
      · exact h.2 j k g a1 b1
theorem els_cut {vs : List Value} {R : List Fl} {i k s : Nat} {f : Fl} {A : Option Addr} {c : Nat} (h : St W w (aEls vs R :: X)) (hl : vs.length = R.length) (hf : R[i]? = some f) (hv : vs[i]? = some (.slice A f.b.length c)) (hk : k ≤ f.b.length) : St W w (aEls (vs.set i (.slice A k k)) (R.set i ⟨f.nm, f.b.take k, s⟩) :: X) :=
  h.conv fun own ha => by
    obtain ⟨v, k1, k2, k3⟩ := ha.1 i f hf
    rw [hv] at k1
    obtain rfl := Option.some.inj k1
    have hob : ∀ g, (Value.slice A k k).ownBlock = some g → (Value.slice A f.b.length c).ownBlock = some g := fun g hg => by
      cases A with
      | none => simp [Value.ownBlock] at hg
      | some a => simpa [Value.ownBlock] using hg
    refine els_set ha hl (k2.cutCap k hk).2.2 (fun g hg hne => k3 g (hob g hg) (fun e => hne (by simp [e]))) fun j g hj hg hne => ?_
    exact ha.2 j i g hj ⟨f, _, hf, hv, fun e => hne (by simp [e]), hob g hg⟩
/-- bytes of their own become a file's -/
theorem els_own {vs : List Value} {R : List Fl} {i : Nat} {f' : Fl} {v' : Value} (h : St W w (aBs v' f'.b :: aEls vs R :: X)) (hl : vs.length = R.length) : St W w (aEls (vs.set i v') (R.set i f') :: X) :=
  h.join fun o o' ha he hno => by
    have he' : (aEls vs R).at_ (fun x => o x ∨ o' x) w := ⟨fun j x hx => by
      obtain ⟨v, k1, k2, k3⟩ := he.1 j x hx
      exact ⟨v, k1, k2, fun g hg hne => .inr (k3 g hg hne)⟩, he.2⟩
    refine els_set he' hl ha.1 (fun g hg hne => .inl (ha.2 g hg hne)) fun j g ⟨x, v, k1, k2, k3, k4⟩ hg hne => ?_
    obtain ⟨u, z1, z2, z3⟩ := he.1 j x k1
    rw [k2] at z1
    obtain rfl := Option.some.inj z1
    exact absurd (ha.2 g hg hne) (hno g (z3 g k4 k3))
theorem els_new {vs : List Value} {R : List Fl} {i : Nat} {f' : Fl} {v' : Value} (h : St W w (aBy v' f'.b :: aEls vs R :: X)) (hl : vs.length = R.length) (hb : f'.b.length ≤ big) : St W w (aEls (vs.set i v') (R.set i f') :: X) :=
  els_own (h.conv (C := aBs v' f'.b) fun own ha => ⟨Bs.of_own ha.1 hb, fun g hg _ => ha.2 g hg⟩) hl
theorem cellsF_set {vs : List Value} {R : List Fl} {i : Nat} {f f' : Fl} (v' : Value) (hf : R[i]? = some f) (hn : f'.nm = f.nm) : ((cellsF vs R).set (i * 3 + 1) v').set (i * 3 + 2) (.int .i64 (f'.sure : Int)) = cellsF (vs.set i v') (R.set i f') := by
  rw [cellsF_setB i v', cellsF_setS i f f'.sure hf]
  have hi : i < R.length := by
    rcases Nat.lt_or_ge i R.length with h' | h'
    · exact h'
    · rw [List.getElem?_eq_none h'] at hf; cases hf
  have e2 : (R.set i ⟨f.nm, f.b, f'.sure⟩)[i]? = some ⟨f.nm, f.b, f'.sure⟩ := by rw [List.getElem?_set, if_pos rfl, if_pos hi]
  have := cellsF_bytes (vs := vs.set i v') f'.b e2
  rw [← this, List.set_set, ← hn]
end
end Go.Proofs.YtoikjgcggmemaaaGreatDoor

/- The reference's disk: Write. -/
namespace Go.Proofs.YtoikjgcggmemaaaGreatDoor
open Go.RowKit Go.Maps Go.Deep
set_option linter.unusedVariables false

section
variable {W w : World} {p m : Nat} {d : Dk} {X L : List Asn} {n : List UInt8} {A C D : Asn}
theorem cellsB_nil : cellsB [] = [] := rfl
theorem els_bs {vs : List Value} {R : List Fl} {i : Nat} {f : Fl} {v : Value} (h : St W w (aEls vs R :: X)) (hf : R[i]? = some f) (hv : vs[i]? = some v) : Bs w v f.b := by
  obtain ⟨own, he, _⟩ := h.get
  obtain ⟨v', k1, k2, _⟩ := he.1 i f hf
  rw [hv] at k1
  obtain rfl := Option.some.inj k1
  exact k2
end
end Go.Proofs.YtoikjgcggmemaaaGreatDoor

/- The reference's disk: Append. -/
namespace Go.Proofs.YtoikjgcggmemaaaGreatDoor
open Go.RowKit Go.Maps Go.Deep
set_option linter.unusedVariables false

section
variable {W w : World} {p m : Nat} {d : Dk} {X L : List Asn} {n : List UInt8} {A C D : Asn}
theorem at_lt {R : List Fl} {i : Nat} {f : Fl} (hf : R[i]? = some f) : i < R.length := by
  rcases Nat.lt_or_ge i R.length with h' | h'
  · exact h'
  · rw [List.getElem?_eq_none h'] at hf; cases hf
theorem append_write {i : Nat} {er : Int} {f : Fl} {b : List UInt8} (h : d.ok) (hm : mayF d n = (some i, er)) (hd : d.R[i]? = some f) :
    writeF d n (f.b.length : Int) b = appendF d n b ∧ ∃ f', (appendF d n b).2.R[i]? = some f' ∧ f'.sure = f.sure := by
  have hs := h.sure f (List.mem_of_getElem? hd)
  have e1 : writeF d n (f.b.length : Int) b = _ := turn_some hm hd
  have e2 : appendF d n b = _ := turn_some hm hd
  rw [e1, e2]
  unfold writeB
  rw [if_neg (by omega)]
  have e3 : (b.length : Int) - ((f.b.length : Int) - (f.b.length : Int)) = (b.length : Int) := by omega
  rw [e3]
  by_cases q : d.room - usedF d.R < (b.length : Int)
  · rw [if_pos q, if_pos q]
    exact ⟨rfl, f, by simp only; rw [List.getElem?_set, if_pos rfl, if_pos (at_lt hd)], rfl⟩
  · rw [if_neg q, if_neg q]
    have e4 : f.b.take ((f.b.length : Int)).toNat ++ b ++ f.b.drop (((f.b.length : Int)).toNat + b.length) = f.b ++ b := by
      rw [Int.toNat_natCast, List.take_length, List.drop_eq_nil_of_le (by omega), List.append_nil]
    have e5 : min f.sure ((f.b.length : Int)).toNat = f.sure := by rw [Int.toNat_natCast]; omega
    rw [e4, e5]
    exact ⟨rfl, ⟨f.nm, f.b ++ b, f.sure⟩, by simp only; rw [List.getElem?_set, if_pos rfl, if_pos (at_lt hd)], rfl⟩
end
end Go.Proofs.YtoikjgcggmemaaaGreatDoor

/- The reference's disk: rows of files cut; Remove. -/
namespace Go.Proofs.YtoikjgcggmemaaaGreatDoor
open Go.RowKit Go.Maps Go.Deep
set_option linter.unusedVariables false

theorem cellsF_take : ∀ {vs : List Value} {R : List Fl} (i : Nat), vs.length = R.length → (cellsF vs R).take (i * 3) = cellsF (vs.take i) (R.take i)
  | [], R, i, h => by simp [cellsF]
  | _ :: _, [], i, h => by simp at h
  | v :: vs, f :: R, 0, h => by simp [cellsF]
  | v :: vs, f :: R, i + 1, h => by
    have := cellsF_take (vs := vs) (R := R) i (by simpa using h)
    rw [show (i + 1) * 3 = i * 3 + 1 + 1 + 1 by omega]
    simp only [cellsF, List.take_succ_cons, this]
theorem cellsF_drop : ∀ {vs : List Value} {R : List Fl} (i : Nat), vs.length = R.length → (cellsF vs R).drop (i * 3) = cellsF (vs.drop i) (R.drop i)
  | [], R, i, h => by simp [cellsF]
  | _ :: _, [], i, h => by simp at h
  | v :: vs, f :: R, 0, h => by simp [cellsF]
  | v :: vs, f :: R, i + 1, h => by
    have := cellsF_drop (vs := vs) (R := R) i (by simpa using h)
    rw [show (i + 1) * 3 = i * 3 + 1 + 1 + 1 by omega]
    simp only [cellsF, List.drop_succ_cons, this]
theorem cellsF_app : ∀ {vs us : List Value} {R T : List Fl}, vs.length = R.length → cellsF vs R ++ cellsF us T = cellsF (vs ++ us) (R ++ T)
  | [], us, [], T, h => by simp [cellsF]
  | [], us, _ :: _, T, h => by simp at h
  | _ :: _, us, [], T, h => by simp at h
  | v :: vs, us, f :: R, T, h => by
    have := cellsF_app (vs := vs) (us := us) (R := R) (T := T) (by simpa using h)
    simp only [cellsF, List.cons_append, this]
theorem cellsF_one : ∀ {vs : List Value} {R : List Fl}, (∀ (i : Nat) (f : Fl), R[i]? = some f → ∀ v, vs[i]? = some v → v.oneCell' = true) → ∀ x ∈ cellsF vs R, x.oneCell' = true
  | [], R, h, x, hx => by simp [cellsF] at hx
  | _ :: _, [], h, x, hx => by simp [cellsF] at hx
  | v :: vs, f :: R, h, x, hx => by
    simp only [cellsF, List.mem_cons] at hx
    rcases hx with rfl | rfl | rfl | hx
    · rfl
    · exact h 0 f rfl _ rfl
    · rfl
    · exact cellsF_one (vs := vs) (R := R) (fun i g hg v hv => h (i + 1) g (by simpa using hg) v (by simpa using hv)) x hx
section
variable {W w : World} {p m : Nat} {d : Dk} {X L : List Asn} {n : List UInt8} {A C D : Asn}
theorem els_one {vs : List Value} {R : List Fl} (h : St W w (aEls vs R :: X)) : ∀ (i : Nat) (f : Fl), R[i]? = some f → ∀ v, vs[i]? = some v → v.oneCell' = true := by
  intro i f hf v hv
  obtain ⟨A, c, rfl⟩ := (els_bs h hf hv).rd.slice
  rfl
theorem els_sub {own : Nat → Prop} {vs vs' : List Value} {R R' : List Fl} (h : (aEls vs R).at_ own w) (σ : Nat → Nat) (hs : ∀ (i : Nat) (f : Fl), R'[i]? = some f → R[σ i]? = some f ∧ vs[σ i]? = vs'[i]?) (hσ : ∀ i j, σ i = σ j → i = j) : (aEls vs' R').at_ own w := by
  refine ⟨fun i f hf => ?_, apart_of h.2 σ (fun i g ⟨f, v, k1, k2, k3, k4⟩ => ⟨f, v, (hs i f k1).1, (hs i f k1).2.trans k2, k3, k4⟩) (fun i j g _ _ e => hσ i j e)⟩
  obtain ⟨h1, h2⟩ := hs i f hf
  obtain ⟨v, k1, k2⟩ := h.1 _ f h1
  exact ⟨v, by rw [← h2]; exact k1, k2⟩
theorem St.rowRd {e : TypeId} {sz k : Nat} {v : Value} {xs : List Value} (h : St W w (aRow e sz v k xs :: X)) : Rd w v k sz xs := by
  obtain ⟨own, hr, _⟩ := h.get
  exact Rd.of_own hr.1
theorem drop_at {α : Type} {R : List α} {i j : Nat} {f : α} (h : (R.take i ++ R.drop (i + 1))[j]? = some f) (hi : i < R.length) : R[if j < i then j else j + 1]? = some f := by
  have hl : (R.take i).length = i := by rw [List.length_take]; omega
  by_cases e : j < i
  · rw [if_pos e]
    rw [List.getElem?_append_left (by omega), List.getElem?_take, if_pos e] at h
    exact h
  · rw [if_neg e]
    rw [List.getElem?_append_right (by omega), List.getElem?_drop, hl] at h
    rw [show j + 1 = i + 1 + (j - i) by omega]
    exact h
theorem drop_eq {α : Type} {R : List α} {i j : Nat} (hi : i < R.length) : (R.take i ++ R.drop (i + 1))[j]? = R[if j < i then j else j + 1]? := by
  have hl : (R.take i).length = i := by rw [List.length_take]; omega
  by_cases e : j < i
  · rw [if_pos e, List.getElem?_append_left (by omega), List.getElem?_take, if_pos e]
  · rw [if_neg e, List.getElem?_append_right (by omega), List.getElem?_drop, hl, show i + 1 + (j - i) = j + 1 by omega]
/-- the i-th file's bytes by themselves -/
theorem Sep.split_ {U own1 own2 : Nat → Prop} {A : Asn} (h : Sep w U (A :: L)) (hs : ∀ own, (∀ b, own b → U b ∧ b < w.heap.size) → A.at_ own w → C.at_ (fun b => own b ∧ own1 b) w ∧ D.at_ (fun b => own b ∧ ¬ own1 b) w) : Sep w U (C :: D :: L) := by
  obtain ⟨own, h1, h2, h3⟩ := h
  obtain ⟨k1, k2⟩ := hs own h1 h2
  refine ⟨fun b => own b ∧ own1 b, fun b hb => h1 b hb.1, k1, fun b => own b ∧ ¬ own1 b, fun b hb => ⟨⟨(h1 b hb.1).1, fun e => hb.2 e.2⟩, (h1 b hb.1).2⟩, k2, h3.mono fun b _ hb => ⟨⟨hb.1, fun e => hb.2 e.1⟩, fun e => hb.2 e.1⟩⟩
theorem els_take {vs : List Value} {R : List Fl} {i : Nat} {f : Fl} {v : Value} (h : St W w (aEls vs R :: X)) (hl : vs.length = R.length) (hf : R[i]? = some f) (hv : vs[i]? = some v) : St W w (aBs v f.b :: aEls (vs.take i ++ vs.drop (i + 1)) (R.take i ++ R.drop (i + 1)) :: X) := by
  have hi := at_lt hf
  refine ⟨h.1, h.2.split_ (own1 := fun b => f.b ≠ [] ∧ v.ownBlock = some b) (own2 := fun _ => False) fun own _ ha => ?_⟩
  obtain ⟨u, k1, k2, k3⟩ := ha.1 i f hf
  rw [hv] at k1
  obtain rfl := Option.some.inj k1
  refine ⟨⟨k2, fun g hg hne => ⟨k3 g hg hne, hne, hg⟩⟩, ?_⟩
  have h2 := els_sub (vs' := vs.take i ++ vs.drop (i + 1)) (R' := R.take i ++ R.drop (i + 1)) ha (fun j => if j < i then j else j + 1) (fun j x hx => ⟨drop_at hx hi, (drop_eq (by omega)).symm⟩) (fun a b e => by
    by_cases q1 : a < i <;> by_cases q2 : b < i <;> simp only [q1, q2, if_true, if_false] at e <;> omega)
  refine ⟨fun j x hx => ?_, h2.2⟩
  obtain ⟨y, z1, z2, z3⟩ := h2.1 j x hx
  refine ⟨y, z1, z2, fun g hg hne => ⟨z3 g hg hne, fun e => ?_⟩⟩
  have a1 : inB vs R (if j < i then j else j + 1) g := ⟨x, y, drop_at hx hi, (drop_eq (by omega)).symm.trans z1, hne, hg⟩
  have a2 : inB vs R i g := ⟨f, v, hf, hv, e.1, e.2⟩
  have := ha.2 _ _ _ a1 a2
  split at this <;> omega
theorem St.dropL {G : List Asn} (h : St W w (G ++ L)) : St W w L := by
  induction G with
  | nil => exact h
  | cons A G ih => exact ih h.drop
end
end Go.Proofs.YtoikjgcggmemaaaGreatDoor

/- The reference's disk: Create. -/
namespace Go.Proofs.YtoikjgcggmemaaaGreatDoor
open Go.RowKit Go.Maps Go.Deep
set_option linter.unusedVariables false

theorem bl_eq : ∀ a b : List UInt8, Op.bytesLess a b = bytesBefore a b
  | [], [] => by simp [bytesBefore, Op.bytesLess]
  | [], _ :: _ => by simp [bytesBefore, Op.bytesLess]
  | _ :: _, [] => by simp [bytesBefore, Op.bytesLess]
  | a :: r, b :: s => by simp [bytesBefore, Op.bytesLess, bl_eq r s]
section
variable {W w : World} {p m : Nat} {d : Dk} {X L : List Asn} {n : List UInt8} {A C D : Asn}
theorem Rd.three (w : World) (x y z : Value) (t : TypeId) : Rd (w.alloc (.cells #[x, y, z] t)) (.slice (some ⟨w.heap.size, 0, none⟩) 1 1) 1 3 [x, y, z] := by
  refine ⟨rfl, _, _, rfl, fun e => (by cases e), Nat.le_refl _, fun ad had => ?_⟩
  cases had
  have hk := Blk.new w t #[x, y, z]
  refine ⟨fun _ => hk.lt, fun j u hu => ?_⟩
  have ea : (⟨w.heap.size, 0, none⟩ : Addr).add j = ⟨w.heap.size, j, none⟩ := by unfold Addr.add; split <;> simp_all
  rw [ea, hk.cell, ← hu]
  simp
theorem els_ins {own : Nat → Prop} {vs : List Value} {R : List Fl} {q : Nat} (h : (aEls vs R).at_ own w) (hl : vs.length = R.length) (hq : q ≤ R.length) (n : List UInt8) : (aEls (vs.take q ++ .slice none 0 0 :: vs.drop q) (R.take q ++ ⟨n, [], 0⟩ :: R.drop q)).at_ own w := by
  have e1 : (R.take q).length = q := by rw [List.length_take]; omega
  have e2 : (vs.take q).length = q := by rw [List.length_take]; omega
  refine ⟨fun j x hx => ?_, ?_⟩
  · rcases Nat.lt_trichotomy j q with hj | hj | hj
    · rw [List.getElem?_append_left (by omega), List.getElem?_take, if_pos hj] at hx
      obtain ⟨v, k1, k2⟩ := h.1 j x hx
      exact ⟨v, by rw [List.getElem?_append_left (by omega), List.getElem?_take, if_pos hj]; exact k1, k2⟩
    · subst hj
      rw [List.getElem?_append_right (by omega), e1, Nat.sub_self] at hx
      have := Option.some.inj hx
      subst this
      exact ⟨.slice none 0 0, by rw [List.getElem?_append_right (by omega), e2, Nat.sub_self]; rfl, Bs.nil w, fun g hg _ => by simp [Value.ownBlock] at hg⟩
    · obtain ⟨k, rfl⟩ : ∃ k, j = q + 1 + k := ⟨j - (q + 1), by omega⟩
      rw [List.getElem?_append_right (by omega), e1, show q + 1 + k - q = k + 1 by omega, List.getElem?_cons_succ, List.getElem?_drop] at hx
      obtain ⟨v, k1, k2⟩ := h.1 _ x hx
      exact ⟨v, by rw [List.getElem?_append_right (by omega), e2, show q + 1 + k - q = k + 1 by omega, List.getElem?_cons_succ, List.getElem?_drop]; exact k1, k2⟩
  · have key : ∀ j g, inB (vs.take q ++ .slice none 0 0 :: vs.drop q) (R.take q ++ ⟨n, [], 0⟩ :: R.drop q) j g → j ≠ q ∧ inB vs R (if j < q then j else j - 1) g := fun j g ⟨f, v, k1, k2, k3, k4⟩ => by
      rcases Nat.lt_trichotomy j q with hj | hj | hj
      · rw [List.getElem?_append_left (by omega), List.getElem?_take, if_pos hj] at k1 k2
        rw [if_pos hj]
        exact ⟨by omega, f, v, k1, k2, k3, k4⟩
      · subst hj
        rw [List.getElem?_append_right (by omega), e1, Nat.sub_self] at k1
        have := Option.some.inj k1
        subst this
        exact absurd rfl k3
      · obtain ⟨k, rfl⟩ : ∃ k, j = q + 1 + k := ⟨j - (q + 1), by omega⟩
        rw [List.getElem?_append_right (by omega), e1, show q + 1 + k - q = k + 1 by omega, List.getElem?_cons_succ, List.getElem?_drop] at k1
        rw [List.getElem?_append_right (by omega), e2, show q + 1 + k - q = k + 1 by omega, List.getElem?_cons_succ, List.getElem?_drop] at k2
        rw [if_neg (by omega), show q + 1 + k - 1 = q + k by omega]
        exact ⟨by omega, f, v, k1, k2, k3, k4⟩
    refine apart_of h.2 (fun j => if j < q then j else j - 1) (fun j g hj => (key j g hj).2) fun i j g a b e => ?_
    have := (key i g a).1
    have := (key j g b).1
    by_cases q1 : i < q <;> by_cases q2 : j < q <;> simp only [q1, q2, if_true, if_false] at e <;> omega
end
end Go.Proofs.YtoikjgcggmemaaaGreatDoor

/- slices.Equal over strings, bytes.HasPrefix. -/
namespace Go.Proofs.YtoikjgcggmemaaaGreatDoor
open Go.RowKit Go.Maps Go.Deep
set_option linter.unusedVariables false

section
variable {W w : World} {p m : Nat} {d : Dk} {X L : List Asn} {n to : List UInt8} {A C D : Asn}
theorem retB_ {a b : Bool} (h : a = b) : Ending.returned (.bool a) = Ending.returned (.bool b) := by rw [h]
end
end Go.Proofs.YtoikjgcggmemaaaGreatDoor
