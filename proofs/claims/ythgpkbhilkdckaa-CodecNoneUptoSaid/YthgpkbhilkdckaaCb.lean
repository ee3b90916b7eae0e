/- What codec and its reference put: numbers, byte strings, lists. -/
import Derived.Test.YthgpkbhilkdckaaCa
namespace Go.Proofs.Ythgpkbhilkdckaa
open Go.RowKit
set_option linter.unusedVariables false

/-- a slice with no room behind it -/
def clipV : Value → Value | .slice A n _ => .slice A n n | v => v
set_option maxHeartbeats 400000 in
theorem clip116 {w : World} {v : Value} {bs : List UInt8} (h : Bs w v bs) : Calls Try.prog 116 #[v] w fun e w' => e = .returned (clipV v) ∧ w = w' := by
  obtain ⟨⟨A, cap, rfl, hn, hc, hm, hr⟩, hl⟩ := h
  have hm' : bs.length ≤ 9223372036854775807 := by unfold maxLen at hm; omega
  have hci : (bs.length : Int) ≤ (cap : Int) := by omega
  cases A with
  | none =>
    obtain ⟨rfl, rfl⟩ := hn rfl
    clear hr hn hc hm hl
    go_enter Try.func116, Try.ntmps116
    go_wp2
    go_ret
    exact ⟨rfl, rfl⟩
  | some ad =>
    clear hr hn hm hl
    go_enter Try.func116, Try.ntmps116
    go_wp2
    go_ret
    exact ⟨rfl, rfl⟩
/-- append where there is no room: a new row -/
theorem append_clip {P : Program} {t ty : TypeId} {w : World} {v u : Value} {bs news : List UInt8} (ht : P.underlying t = some (.slice 5)) (hi5 : (P.info? 5).map (fun i => (i.zero, i.size, i.bytes)) = some (some (.int .u8 0), 1, 1))
    (hv : Bs w v bs) (hu : Rd w u news.length 1 (cellsB news)) (hm : 0 < news.length) (hroom : bs.length + news.length ≤ big) :
    ∃ v' w', (Builtin.append_ #[t, t] ty #[clipV v, u]).run P w = .ok v' w' ∧ w'.ownsRow w.heap.size 5 1 v' (bs ++ news).length (cellsB (bs ++ news)) ∧ B w w' := by
  obtain ⟨⟨A, cap, rfl, hn, hc, hmx, hr⟩, hl⟩ := hv
  have hb1 : bs.length + news.length ≤ maxLen := by unfold big at hroom; unfold maxLen; omega
  have hb2 : (bs.length + news.length) * 1 ≤ 140737488355328 := by unfold big at hroom; omega
  cases A with
  | none =>
    obtain ⟨rfl, rfl⟩ := hn rfl
    obtain ⟨v', w', h1, h2, h3, h4⟩ := append_Rd (P := P) (t := t) (ty := ty) ht hi5 rfl Nat.zero_lt_one (ownNil w w.heap.size 5 1) hu (cellsB_one _) (by simpa using hb1) (by simpa using hb2) (Nat.le_refl _)
    exact ⟨v', w', h1, by simpa using h2, B.grown (Below.refl _ _) h3 (fun k hk => by simp [Value.ownBlock] at hk)⟩
  | some ad =>
    obtain ⟨i, hi, hz0, hs, hby⟩ := info_parts hi5
    obtain ⟨hul, A', c', rfl, hn', hc', hr'⟩ := hu
    cases A' with
    | none => have := (hn' rfl).1; omega
    | some ad' =>
      obtain ⟨v', w', h1, h2, h3⟩ := run_append_arg_grows (P := P) w t ty 5 i (.int .u8 0) 1 1 ht hi hz0 hs hby rfl Nat.zero_lt_one ad bs.length bs.length (cellsB bs) (by rw [cellsB_len]; omega) (hr ad rfl).2 ad' news.length c' (cellsB news) (by rw [cellsB_len]; omega) (hr' ad' rfl).2 (by omega) hb1 hb2
      exact ⟨v', w', h1, by rw [List.length_append, cellsB_app]; exact h2, B.grown (Below.refl _ _) h3 (fun k hk => by cases hk)⟩
theorem ten_rd {w : World} {g : Nat} {p : List UInt8} (hp : p.length ≤ 10) (h : Blk w g 141 (ten p)) : Rd w (.slice (some ⟨g, 0, none⟩) p.length 10) p.length 1 (cellsB p) := by
  refine ⟨by rw [cellsB_len]; omega, _, 10, rfl, fun e => (by cases e), hp, fun ad had => ?_⟩
  cases had
  refine ⟨fun _ => h.lt, fun j x hx => ?_⟩
  have ea : (⟨g, 0, none⟩ : Addr).add j = ⟨g, j, none⟩ := by unfold Addr.add; split <;> simp_all
  rw [ea, h.cell, ← hx]
  have hj : j < (cellsB p).length := by
    rcases Nat.lt_or_ge j (cellsB p).length with h | h
    · exact h
    · rw [List.getElem?_eq_none h] at hx; cases hx
  simp only [ten, List.getElem?_toArray]
  rw [List.getElem?_append_left hj]

/-- what is put: fresh bytes -/
def Fresh (w : World) (bs : List UInt8) (e : Ending) (w' : World) : Prop := ∃ v', e = .returned v' ∧ w'.ownsRow w.heap.size 5 1 v' bs.length (cellsB bs) ∧ B w w'

set_option maxRecDepth 20000 in
set_option maxHeartbeats 1000000 in
theorem putNum70 {w : World} {v : Value} {bs : List UInt8} (h : Bs w v bs) (n : Nat) (hn : n < 18446744073709551616) (hl : bs.length + 10 ≤ big) : Calls Try.prog 70 #[v, .int .u64 (n : Int)] w (Fresh w (bs ++ enc n)) := by
  have H := Lib.hid h
  have HF := Lib.hid (form115 w n hn)
  have HE := Lib.hid (enc_10 hn)
  have HL := Lib.hid hl
  obtain ⟨x0, x1, x2, x3, x4, x5, x6, x7, x8, x9, hx⟩ := ten_lit (p := enc n) (enc_10 hn)
  have HX := Lib.hid hx
  have hq : (enc n).length ≤ 10 := enc_10 hn
  have hqi : ((enc n).length : Int) ≤ 10 := by omega
  clear h hn hl hx
  go_enter Try.func70, Try.ntmps70
  go_wp2_with (go_at_call 115; refine HF.out.mono ?_; rintro e w1 ⟨rfl, hb1⟩; rw [HX.out])
  have hb2 := hb1.trans (B.alloc' w1 (.cells #[.int .u8 x0, .int .u8 x1, .int .u8 x2, .int .u8 x3, .int .u8 x4, .int .u8 x5, .int .u8 x6, .int .u8 x7, .int .u8 x8, .int .u8 x9] 141))
  have hk : Blk (w1.alloc (.cells #[.int .u8 x0, .int .u8 x1, .int .u8 x2, .int .u8 x3, .int .u8 x4, .int .u8 x5, .int .u8 x6, .int .u8 x7, .int .u8 x8, .int .u8 x9] 141)) w1.heap.size 141 #[.int .u8 x0, .int .u8 x1, .int .u8 x2, .int .u8 x3, .int .u8 x4, .int .u8 x5, .int .u8 x6, .int .u8 x7, .int .u8 x8, .int .u8 x9] := Blk.new w1 _ _
  generalize w1.alloc (.cells #[.int .u8 x0, .int .u8 x1, .int .u8 x2, .int .u8 x3, .int .u8 x4, .int .u8 x5, .int .u8 x6, .int .u8 x7, .int .u8 x8, .int .u8 x9] 141) = w2 at *
  have hk' : Blk w2.drew w1.heap.size 141 (ten (enc n)) := by rw [HX.out]; exact hk
  obtain ⟨v', w3, hrun, h2, h3⟩ := append_clip (P := Try.prog) (t := 47) (ty := 47) Try.underlying47 info5 (H.out.later (hb2.trans (Below.refl _ _).drew)) (ten_rd HE.out hk') (enc_pos n) (by have := HE.out; have := HL.out; omega)
  have HC := Lib.hid (clip116 (H.out.later (hb2.trans (Below.refl _ _).drew)))
  have HB := Lib.hid (hb2.trans ((Below.refl _ _).drew.trans h3))
  have hs2 := hb2.size
  have HO := Lib.hid (row_base h2 (show w.heap.size ≤ w2.drew.heap.size from hs2))
  clear hk hk' h2 h3 hb1 hb2 hs2
  go_region_law (first
    | (refine step_call rfl 116 #[.tmp 12] #[47] rfl Try.call116 HC.out rfl ?_; rintro e wn ⟨rfl, rfl⟩; refine ⟨_, rfl, ?_⟩)
    | (refine step_append_run rfl (.tmp 13) (.tmp 15) 47 rfl rfl rfl hrun ?_))
  all_goals
    go_wp2_with fail
    go_ret
    exact ⟨v', rfl, HO.out, HB.out⟩
end Go.Proofs.Ythgpkbhilkdckaa
