/- Lemmas and contracts, part Zg20.3. -/
import Derived.Test.YteaggenihhaajaaGreatZe1
/- The lists of the reference's writer (bullaref20.Writer), its core, Check and Bytes, over data (printed by gen_dx.py). -/
namespace Go.Proofs.YteaggenihhaajaaGreat
open Go.RowKit
set_option linter.unusedVariables false
set_option maxRecDepth 20000

theorem okBrY [Wd] {P : Program} {Q : Exit → S → Prop} {b : Bool} {t f : T} (hb : b = true) (h : t.ok P Q) : (T.br b t f).ok P Q := by subst hb; exact okBrT h
theorem okBrN [Wd] {P : Program} {Q : Exit → S → Prop} {b : Bool} {t f : T} (hb : b = false) (h : f.ok P Q) : (T.br b t f).ok P Q := by subst hb; exact okBrF h
theorem wr_lo (q : Nat) : -9223372036854775808 ≤ (q : Int) + 1 := by omega
theorem wr_hi {q n : Nat} (h : q < n) (k : n ≤ 4194304) : (q : Int) + 1 ≤ 9223372036854775807 := by omega
theorem bq_t {b : Bool} (h : b = true) : (b == true) = true := by rw [h]; rfl
theorem bq_f {b : Bool} (h : b = false) : (b == true) = false := by rw [h]; rfl
theorem bq_n {b : Bool} (h : b = true) : (!b) = false := by rw [h]; rfl
theorem fold_bad {α : Type} (f : α → WS → WS) : ∀ (l : List α) (w : WS), w.2 = true → l.foldl (fun w x => skB (f x) w) w = w
  | [], w, h => rfl
  | x :: l, w, h => by
    rw [List.foldl_cons, show skB (f x) w = w from if_pos h]
    exact fold_bad f l w h
/-- so far in the list: one more, or the end of it -/
theorem fold_cases {α : Type} {f : α → WS → WS} {l : List α} {q : Nat} {b : List UInt8} {bad : Bool} {w : WS} (he : (b, bad) = (l.take q).foldl (fun w x => skB (f x) w) w) :
    (∃ x, l[q]? = some x ∧ q < l.length ∧ bad = false ∧ f x (b, false) = (l.take (q + 1)).foldl (fun w x => skB (f x) w) w) ∨ ((b, bad) = l.foldl (fun w x => skB (f x) w) w ∧ (q < l.length → bad = true)) := by
  rcases Nat.lt_or_ge q l.length with h | h
  · obtain ⟨x, hx⟩ : ∃ x, l[q]? = some x := ⟨_, List.getElem?_eq_getElem h⟩
    cases bad with
    | false =>
      refine .inl ⟨x, hx, h, rfl, ?_⟩
      rw [List.take_add_one, hx, Option.toList_some, List.foldl_append, ← he]
      rfl
    | true =>
      refine .inr ⟨?_, fun _ => rfl⟩
      conv => rhs; rw [← List.take_append_drop q l]
      rw [List.foldl_append, ← he, fold_bad f _ _ rfl]
  · refine .inr ⟨?_, fun h2 => by omega⟩
    rw [he, List.take_of_length_le h]
theorem mkCert_two [Wd] (z : CertD) (hz : dCert.ok z) : (∃ bs : List UInt8, mkCert z = (bs, 0) ∧ bs.length ≤ 262144 ∧ FnP Tryz.prog 194 [.agg (cCert z)] (.tup [.list 1 (bs.map cByte), .int .i64 0])) ∨ (∃ e : Int, mkCert z = ([], e) ∧ FnP Tryz.prog 194 [.agg (cCert z)] (.tup [.nils, .int .i64 e])) := by
  by_cases h0 : certE z = 0
  · exact .inl ⟨certB z, by unfold mkCert; rw [if_pos h0], by have := certB_len h0; omega, xCertBytesY_s z hz h0⟩
  · exact .inr ⟨certE z, by unfold mkCert; rw [if_neg h0], xCertBytesN_s z hz h0⟩
theorem mkChange_two [Wd] (z : ChangeD) (hz : dChange.ok z) : (∃ bs : List UInt8, mkChg z = (bs, 0) ∧ bs.length ≤ 262144 ∧ FnP Tryz.prog 120 [.agg (cChange z)] (.tup [.list 1 (bs.map cByte), .int .i64 0])) ∨ (∃ e : Int, mkChg z = ([], e) ∧ FnP Tryz.prog 120 [.agg (cChange z)] (.tup [.nils, .int .i64 e])) := by
  by_cases h0 : chgE z = 0
  · exact .inl ⟨chgB z, by unfold mkChg; rw [if_pos h0], by have := chgB_len h0; omega, xChangeBytesY_s z hz h0⟩
  · exact .inr ⟨chgE z, by unfold mkChg; rw [if_neg h0], xChangeBytesN_s z hz h0⟩
theorem mkMsg_two [Wd] (z : MsgD) (hz : dMsg.ok z) : (∃ bs : List UInt8, mkMsg z = (bs, 0) ∧ bs.length ≤ 262144 ∧ FnP Tryz.prog 122 [.agg (cMsg z)] (.tup [.list 1 (bs.map cByte), .int .i64 0])) ∨ (∃ e : Int, mkMsg z = ([], e) ∧ FnP Tryz.prog 122 [.agg (cMsg z)] (.tup [.nils, .int .i64 e])) := by
  by_cases h0 : bytesE z = 0
  · exact .inl ⟨fullB z, by unfold mkMsg; rw [if_pos h0], (bytesE_ok.1 h0).2, xBytesY_s z hz h0⟩
  · exact .inr ⟨bytesE z, by unfold mkMsg; rw [if_neg h0], xBytesN_s z hz h0⟩
set_option maxHeartbeats 2000000 in
theorem rwCerts_s [Wd] (l : List CertD) (hL : (dL dCert).ok l) : FnU 115 [.list 3 (l.map cCert)] (rL wCt l) (262200 * ((l.map tCert.sz).sum + 1)) := by
  intro w hb
  have HL : l.length ≤ 4194304 := hL.1
  obtain ⟨w0, ew0⟩ : ∃ z : WS, z = rMy l.length w := ⟨_, rfl⟩
  have lw0 := (rMy_wr l.length).len w
  rw [← ew0] at lw0
  refine mkS 31 [] Tryz.func115 rfl (by kernel_rfl) ?_
  repeat'
    (conv => arg 2; whnf)
    first
    | refine okAsk (by kernel_rfl) ?_
    | refine okBoth ?_ ?_
    | refine okBrT ?_
    | refine okBrF ?_
    | refine okBr (fun h => ?_) (fun h => ?_)
    | refine okUr (w := w) (w' := w0) (rwMany_s l.length) ew0 (Nat.not_lt.1 fun _ => by omega) ⟨⟨rfl, rfl⟩, trivial⟩ (cosE (by rw [List.length_map]; rfl)) rfl ?_
  conv => arg 2; whnf
  refine okLoop (α := Nat × WS) (fun a => ⟨[(4, .int .i64 a.1), (1, .list 3 (l.map cCert)), (0, .ptr 0 0)], [.cells 105 [.list 1 (a.2.1.map cByte), .bool a.2.2]]⟩) (fun a => a.1 ≤ l.length ∧ a.2 = (l.take a.1).foldl (fun w x => skB (wCt x) w) w0) (fun a => l.length - a.1) (0, w0) ⟨Nat.zero_le _, rfl⟩ (Sv.mk' [0] rfl ⟨⟨rfl, rfl⟩, trivial⟩ ⟨rfl, rfl, rfl, trivial⟩) ?_
  rintro ⟨q, b, bad⟩ ⟨hq, he⟩
  replace hq : q ≤ l.length := hq
  replace he : (b, bad) = (l.take q).foldl (fun w x => skB (wCt x) w) w0 := he
  have hv : b.length ≤ w0.1.length + 262200 * ((l.take q).map tCert.sz).sum := by
    have h2 := (Wr.fold (f := fun x => skB (wCt x)) (l.take q) (fun z0 hx => (have hx : z0 ∈ l := List.mem_of_mem_take hx; have hL := hL; (show Wr (wCt z0) _ _ (tCert.sz z0) from (mkCert_wr z0).more (mkCert_sz z0)).sk))).len w0
    rw [← he] at h2
    exact h2
  have hn : (l.map cCert).length = l.length := List.length_map _
  have hm : l.length ≤ 4194304 := (hL).1
  rcases fold_cases he with ⟨x, hxq, hlt, hbad, hnext⟩ | hend
  · subst hbad
    have hd : decide ((q : Int) < ((l.map cCert).length : Int)) = true := by rw [hn]; simpa using hlt
    have hx : x ∈ l := List.mem_of_getElem? hxq
    have hz := sum_at tCert.sz hxq
    have hs1 := mkCert_sz x
    rcases mkCert_two x (hL.2 x hx) with ⟨bs, hk, hl, hc⟩ | ⟨e, hk, hc⟩
    all_goals
      repeat'
        (conv => arg 2; whnf)
        first
        | refine okAsk (by kernel_rfl) ?_
        | refine okBoth ?_ ?_
        | refine okBrT ?_
        | refine okBrF ?_
        | refine okBrY hd ?_
        | refine okBrY (bq_t hd) ?_
        | refine okNth (cCert x) (Int.natCast_nonneg q) (by rw [Int.toNat_natCast, List.getElem?_map, hxq]; rfl) ?_
        | refine okFn hc rfl (Cos.refl _) ?_
        | refine okUp (x := b) (y := false) (w' := wCt x (b, false)) (rwMade_s (bs, 0) hl) (by rw [← hk]; rfl) (Nat.not_lt.1 fun _ => by omega) ⟨⟨rfl, rfl⟩, trivial⟩ (Cos.refl _) rfl ?_
        | refine okUp (x := b) (y := false) (w' := wCt x (b, false)) (rwMade_s ([], e) (Nat.zero_le _)) (by rw [← hk]; rfl) (Nat.not_lt.1 fun _ => by omega) ⟨⟨rfl, rfl⟩, trivial⟩ (Cos.cons (.refl _) (Cos.cons (.nil _) (Cos.cons (.refl _) .nil))) rfl ?_
        | refine okWrap (w64 (wr_lo q) (wr_hi hlt hm)) ?_
        | refine okAgain (q + 1, wCt x (b, false)) (Sv.mk' [0] rfl ⟨⟨rfl, rfl⟩, trivial⟩ ⟨rfl, rfl, rfl, trivial⟩) ⟨hlt, hnext⟩ (by show l.length - (q + 1) < l.length - q; omega)
  · have hz : (q < l.length ∧ bad = true) ∨ l.length ≤ q := by
      rcases Nat.lt_or_ge q l.length with h | h
      · exact .inl ⟨h, hend.2 h⟩
      · exact .inr h
    have hend := hend.1
    have hw : b.length ≤ w0.1.length + 262200 * (l.map tCert.sz).sum := by
      have h2 := (Wr.fold (f := fun x => skB (wCt x)) l (fun z0 hx => (have hx : z0 ∈ l := hx; have hL := hL; (show Wr (wCt z0) _ _ (tCert.sz z0) from (mkCert_wr z0).more (mkCert_sz z0)).sk))).len w0
      rw [← hend] at h2
      exact h2
    have hd2 : (decide ((q : Int) < ((l.map cCert).length : Int)) = true ∧ bad = true) ∨ decide ((q : Int) < ((l.map cCert).length : Int)) = false := by
      rw [hn]
      rcases hz with ⟨h1, h2⟩ | h1
      · exact .inl ⟨by simpa using h1, h2⟩
      · exact .inr (by simpa using h1)
    rcases hd2 with ⟨hd, hbad⟩ | hd
    all_goals
      repeat'
        (conv => arg 2; whnf)
        first
        | refine okAsk (by kernel_rfl) ?_
        | refine okBoth ?_ ?_
        | refine okBrT ?_
        | refine okBrF ?_
        | refine okBrY hd ?_
        | refine okBrN hd ?_
        | refine okBrY (bq_t hd) ?_
        | refine okBrN (bq_f hd) ?_
        | refine okBrN (bq_n hbad) ?_
        | refine okOut ?_
        | (refine endUr (.inl rfl) rfl ⟨⟨rfl, rfl⟩, trivial⟩ (.refl _) ?_; unfold rL; rw [← ew0]; exact hend)
set_option maxHeartbeats 2000000 in
theorem rwVotes_s [Wd] (l : List VoteOfD) (hL : (dL dVoteOf).ok l) : FnU 196 [.list 3 (l.map cVoteOf)] (rL rVoteOf l) (262200 * ((l.map tVoteOf.sz).sum + 1)) := by
  intro w hb
  have HL : l.length ≤ 4194304 := hL.1
  obtain ⟨w0, ew0⟩ : ∃ z : WS, z = rMy l.length w := ⟨_, rfl⟩
  have lw0 := (rMy_wr l.length).len w
  rw [← ew0] at lw0
  refine mkS 36 [] Tryz.func196 rfl (by kernel_rfl) ?_
  repeat'
    (conv => arg 2; whnf)
    first
    | refine okAsk (by kernel_rfl) ?_
    | refine okBoth ?_ ?_
    | refine okBrT ?_
    | refine okBrF ?_
    | refine okBr (fun h => ?_) (fun h => ?_)
    | refine okUr (w := w) (w' := w0) (rwMany_s l.length) ew0 (Nat.not_lt.1 fun _ => by omega) ⟨⟨rfl, rfl⟩, trivial⟩ (cosE (by rw [List.length_map]; rfl)) rfl ?_
  conv => arg 2; whnf
  refine okLoop (α := Nat × WS) (fun a => ⟨[(4, .int .i64 a.1), (1, .list 3 (l.map cVoteOf)), (0, .ptr 0 0)], [.cells 105 [.list 1 (a.2.1.map cByte), .bool a.2.2]]⟩) (fun a => a.1 ≤ l.length ∧ a.2 = (l.take a.1).foldl (fun w x => skB (rVoteOf x) w) w0) (fun a => l.length - a.1) (0, w0) ⟨Nat.zero_le _, rfl⟩ (Sv.mk' [0] rfl ⟨⟨rfl, rfl⟩, trivial⟩ ⟨rfl, rfl, rfl, trivial⟩) ?_
  rintro ⟨q, b, bad⟩ ⟨hq, he⟩
  replace hq : q ≤ l.length := hq
  replace he : (b, bad) = (l.take q).foldl (fun w x => skB (rVoteOf x) w) w0 := he
  have hv : b.length ≤ w0.1.length + 262200 * ((l.take q).map tVoteOf.sz).sum := by
    have h2 := (Wr.fold (f := fun x => skB (rVoteOf x)) (l.take q) (fun z0 hx => (have hx : z0 ∈ l := List.mem_of_mem_take hx; have hL := hL; (rVoteOf_wr z0).sk))).len w0
    rw [← he] at h2
    exact h2
  have hn : (l.map cVoteOf).length = l.length := List.length_map _
  have hm : l.length ≤ 4194304 := (hL).1
  rcases fold_cases he with ⟨x, hxq, hlt, hbad, hnext⟩ | hend
  · subst hbad
    have hd : decide ((q : Int) < ((l.map cVoteOf).length : Int)) = true := by rw [hn]; simpa using hlt
    have hx : x ∈ l := List.mem_of_getElem? hxq
    have hz := sum_at tVoteOf.sz hxq
    have hs1 : 3 ≤ tVoteOf.sz x := by have := sign_sz x.sign; unfold tVoteOf; simp only [szM, szP, szI]; omega
    obtain ⟨v1, ev1⟩ : ∃ z : WS, z = wN x.digest (b, false) := ⟨_, rfl⟩
    have lv1 := (wN_wr x.digest).len (b, false)
    rw [← ev1] at lv1
    replace lv1 : v1.1.length ≤ b.length + 262200 * _ := lv1
    repeat'
      (conv => arg 2; whnf)
      first
      | refine okAsk (by kernel_rfl) ?_
      | refine okBoth ?_ ?_
      | refine okBrT ?_
      | refine okBrF ?_
      | refine okBrY hd ?_
      | refine okBrY (bq_t hd) ?_
      | refine okNth (cVoteOf x) (Int.natCast_nonneg q) (by rw [Int.toNat_natCast, List.getElem?_map, hxq]; rfl) ?_
      | refine okUp (x := b) (y := false) (w' := v1) (rwNum_s x.digest) ev1 (Nat.not_lt.1 fun _ => by omega) ⟨⟨rfl, rfl⟩, trivial⟩ (Cos.refl _) rfl ?_
      | refine okUr (w := v1) (w' := rVoteOf x (b, false)) (rwSign_s x.sign) (by rw [ev1]; rfl) (Nat.not_lt.1 fun _ => by omega) ⟨⟨rfl, rfl⟩, trivial⟩ (Cos.refl _) rfl ?_
      | refine okWrap (w64 (wr_lo q) (wr_hi hlt hm)) ?_
      | refine okAgain (q + 1, rVoteOf x (b, false)) (Sv.mk' [0] rfl ⟨⟨rfl, rfl⟩, trivial⟩ ⟨rfl, rfl, rfl, trivial⟩) ⟨hlt, hnext⟩ (by show l.length - (q + 1) < l.length - q; omega)
  · have hz : (q < l.length ∧ bad = true) ∨ l.length ≤ q := by
      rcases Nat.lt_or_ge q l.length with h | h
      · exact .inl ⟨h, hend.2 h⟩
      · exact .inr h
    have hend := hend.1
    have hw : b.length ≤ w0.1.length + 262200 * (l.map tVoteOf.sz).sum := by
      have h2 := (Wr.fold (f := fun x => skB (rVoteOf x)) l (fun z0 hx => (have hx : z0 ∈ l := hx; have hL := hL; (rVoteOf_wr z0).sk))).len w0
      rw [← hend] at h2
      exact h2
    have hd2 : (decide ((q : Int) < ((l.map cVoteOf).length : Int)) = true ∧ bad = true) ∨ decide ((q : Int) < ((l.map cVoteOf).length : Int)) = false := by
      rw [hn]
      rcases hz with ⟨h1, h2⟩ | h1
      · exact .inl ⟨by simpa using h1, h2⟩
      · exact .inr (by simpa using h1)
    rcases hd2 with ⟨hd, hbad⟩ | hd
    all_goals
      repeat'
        (conv => arg 2; whnf)
        first
        | refine okAsk (by kernel_rfl) ?_
        | refine okBoth ?_ ?_
        | refine okBrT ?_
        | refine okBrF ?_
        | refine okBrY hd ?_
        | refine okBrN hd ?_
        | refine okBrY (bq_t hd) ?_
        | refine okBrN (bq_f hd) ?_
        | refine okBrN (bq_n hbad) ?_
        | refine okOut ?_
        | (refine endUr (.inl rfl) rfl ⟨⟨rfl, rfl⟩, trivial⟩ (.refl _) ?_; unfold rL; rw [← ew0]; exact hend)
def rPts (p : PointsD) (w : WS) : WS := rL wCt p.certs (rL rVote p.votes (wM (mkCert p.stable) w))
set_option maxHeartbeats 2000000 in
theorem rwPoints_s [Wd] (p : PointsD) (hp : dPoints.ok p) : FnU 114 [.agg (cPoints p)] (rPts p) (262200 * tPoints.sz p) := by
  intro w hb
  unfold tPoints at hb
  simp only [szM, szP, szL] at hb
  have hs := mkCert_sz p.stable
  obtain ⟨w1, ew1⟩ : ∃ z : WS, z = wM (mkCert p.stable) w := ⟨_, rfl⟩
  have lw1 := (mkCert_wr p.stable).len w
  rw [← ew1] at lw1
  obtain ⟨w2, ew2⟩ : ∃ z : WS, z = rMy p.votes.length w1 := ⟨_, rfl⟩
  have lw2 := (rMy_wr p.votes.length).len w1
  rw [← ew2] at lw2
  rcases mkCert_two p.stable (hp.1) with ⟨bs, hk, hl, hc⟩ | ⟨e, hk, hc⟩
  all_goals
    refine mkS 59 [] Tryz.func114 rfl (by kernel_rfl) ?_
    repeat'
      (conv => arg 2; whnf)
      first
      | refine okAsk (by kernel_rfl) ?_
      | refine okBoth ?_ ?_
      | refine okBrT ?_
      | refine okBrF ?_
      | refine okBr (fun h => ?_) (fun h => ?_)
      | refine okFn hc rfl (Cos.refl _) ?_
      | refine okUr (w := w) (w' := w1) (rwMade_s (bs, 0) hl) (by rw [ew1, hk]) (Nat.not_lt.1 fun _ => by omega) ⟨⟨rfl, rfl⟩, trivial⟩ (Cos.refl _) rfl ?_
      | refine okUr (w := w) (w' := w1) (rwMade_s ([], e) (Nat.zero_le _)) (by rw [ew1, hk]) (Nat.not_lt.1 fun _ => by omega) ⟨⟨rfl, rfl⟩, trivial⟩ (Cos.cons (.refl _) (Cos.cons (.nil _) (Cos.cons (.refl _) .nil))) rfl ?_
      | refine okUr (w := w1) (w' := w2) (rwMany_s p.votes.length) ew2 (Nat.not_lt.1 fun _ => by omega) ⟨⟨rfl, rfl⟩, trivial⟩ (cosE (by rw [List.length_map]; rfl)) rfl ?_
  all_goals
    conv => arg 2; whnf
    refine okLoop (α := Nat × WS) (fun a => ⟨[(4, .int .i64 a.1), (3, .ptr 1 0), (0, .ptr 0 0)], [.cells 105 [.list 1 (a.2.1.map cByte), .bool a.2.2], .cells 33 (cPoints p)]⟩) (fun a => a.1 ≤ p.votes.length ∧ a.2 = (p.votes.take a.1).foldl (fun w x => skB (rVote x) w) w2) (fun a => p.votes.length - a.1) (0, w2) ⟨Nat.zero_le _, rfl⟩ (Sv.mk' [0, 1] rfl ⟨⟨rfl, rfl⟩, ⟨rfl, rfl⟩, trivial⟩ ⟨rfl, rfl, rfl, trivial⟩) ?_
    rintro ⟨q, b, bad⟩ ⟨hq, he⟩
    replace hq : q ≤ p.votes.length := hq
    replace he : (b, bad) = (p.votes.take q).foldl (fun w x => skB (rVote x) w) w2 := he
    have hv : b.length ≤ w2.1.length + 262200 * ((p.votes.take q).map tVote.sz).sum := by
      have h2 := (Wr.fold (f := fun x => skB (rVote x)) (p.votes.take q) (fun z0 hx => (have hx : z0 ∈ p.votes := List.mem_of_mem_take hx; have hL := hp.2.1; (rVote_wr z0).sk))).len w2
      rw [← he] at h2
      exact h2
    have hn : (p.votes.map cVote).length = p.votes.length := List.length_map _
    have hm : p.votes.length ≤ 4194304 := (hp.2.1).1
    rcases fold_cases he with ⟨x, hxq, hlt, hbad, hnext⟩ | hend
    · subst hbad
      have hd : decide ((q : Int) < ((p.votes.map cVote).length : Int)) = true := by rw [hn]; simpa using hlt
      have hx : x ∈ p.votes := List.mem_of_getElem? hxq
      have hz := sum_at tVote.sz hxq
      have hs1 : 3 ≤ tVote.sz x := by have := sign_sz x.sign; unfold tVote; simp only [szM, szP, szI]; omega
      obtain ⟨v1, ev1⟩ : ∃ z : WS, z = wN x.seq (b, false) := ⟨_, rfl⟩
      have lv1 := (wN_wr x.seq).len (b, false)
      rw [← ev1] at lv1
      replace lv1 : v1.1.length ≤ b.length + 262200 * _ := lv1
      obtain ⟨v2, ev2⟩ : ∃ z : WS, z = wN x.digest v1 := ⟨_, rfl⟩
      have lv2 := (wN_wr x.digest).len v1
      rw [← ev2] at lv2
      repeat'
        (conv => arg 2; whnf)
        first
        | refine okAsk (by kernel_rfl) ?_
        | refine okBoth ?_ ?_
        | refine okBrT ?_
        | refine okBrF ?_
        | refine okBrY hd ?_
        | refine okBrY (bq_t hd) ?_
        | refine okNth (cVote x) (Int.natCast_nonneg q) (by rw [Int.toNat_natCast, List.getElem?_map, hxq]; rfl) ?_
        | refine okUp (x := b) (y := false) (w' := v1) (rwNum_s x.seq) ev1 (Nat.not_lt.1 fun _ => by omega) ⟨⟨rfl, rfl⟩, trivial⟩ (Cos.refl _) rfl ?_
        | refine okUr (w := v1) (w' := v2) (rwNum_s x.digest) ev2 (Nat.not_lt.1 fun _ => by omega) ⟨⟨rfl, rfl⟩, trivial⟩ (Cos.refl _) rfl ?_
        | refine okUr (w := v2) (w' := rVote x (b, false)) (rwSign_s x.sign) (by rw [ev2, ev1]; rfl) (Nat.not_lt.1 fun _ => by omega) ⟨⟨rfl, rfl⟩, trivial⟩ (Cos.refl _) rfl ?_
        | refine okWrap (w64 (wr_lo q) (wr_hi hlt hm)) ?_
        | refine okAgain (q + 1, rVote x (b, false)) (Sv.mk' [0, 1] rfl ⟨⟨rfl, rfl⟩, ⟨rfl, rfl⟩, trivial⟩ ⟨rfl, rfl, rfl, trivial⟩) ⟨hlt, hnext⟩ (by show p.votes.length - (q + 1) < p.votes.length - q; omega)
    · have hz : (q < p.votes.length ∧ bad = true) ∨ p.votes.length ≤ q := by
        rcases Nat.lt_or_ge q p.votes.length with h | h
        · exact .inl ⟨h, hend.2 h⟩
        · exact .inr h
      have hend := hend.1
      have hw : b.length ≤ w2.1.length + 262200 * (p.votes.map tVote.sz).sum := by
        have h2 := (Wr.fold (f := fun x => skB (rVote x)) p.votes (fun z0 hx => (have hx : z0 ∈ p.votes := hx; have hL := hp.2.1; (rVote_wr z0).sk))).len w2
        rw [← hend] at h2
        exact h2
      have hd2 : (decide ((q : Int) < ((p.votes.map cVote).length : Int)) = true ∧ bad = true) ∨ decide ((q : Int) < ((p.votes.map cVote).length : Int)) = false := by
        rw [hn]
        rcases hz with ⟨h1, h2⟩ | h1
        · exact .inl ⟨by simpa using h1, h2⟩
        · exact .inr (by simpa using h1)
      rcases hd2 with ⟨hd, hbad⟩ | hd
      all_goals
        repeat'
          (conv => arg 2; whnf)
          first
          | refine okAsk (by kernel_rfl) ?_
          | refine okBoth ?_ ?_
          | refine okBrT ?_
          | refine okBrF ?_
          | refine okBrY hd ?_
          | refine okBrN hd ?_
          | refine okBrY (bq_t hd) ?_
          | refine okBrN (bq_f hd) ?_
          | refine okBrN (bq_n hbad) ?_
          | refine okOut ?_
          | refine okUp (x := b) (y := bad) (w' := rL wCt p.certs (b, bad)) (rwCerts_s p.certs hp.2.2) rfl (Nat.not_lt.1 fun _ => by omega) ⟨⟨rfl, rfl⟩, trivial⟩ (Cos.refl _) rfl ?_
          | (refine endUr (.inl rfl) rfl ⟨⟨rfl, rfl⟩, trivial⟩ (.refl _) ?_; rw [hend, ew2, ew1]; rfl)
set_option maxHeartbeats 2000000 in
theorem rwSlots_s [Wd] (l : List SlotD) (hL : (dL dSlot).ok l) : FnU 117 [.list 8 (l.map cSlot)] (rL rSlot l) (262200 * ((l.map tSlot.sz).sum + 1)) := by
  intro w hb
  have HL : l.length ≤ 4194304 := hL.1
  obtain ⟨w0, ew0⟩ : ∃ z : WS, z = rMy l.length w := ⟨_, rfl⟩
  have lw0 := (rMy_wr l.length).len w
  rw [← ew0] at lw0
  refine mkS 70 [] Tryz.func117 rfl (by kernel_rfl) ?_
  repeat'
    (conv => arg 2; whnf)
    first
    | refine okAsk (by kernel_rfl) ?_
    | refine okBoth ?_ ?_
    | refine okBrT ?_
    | refine okBrF ?_
    | refine okBr (fun h => ?_) (fun h => ?_)
    | refine okUr (w := w) (w' := w0) (rwMany_s l.length) ew0 (Nat.not_lt.1 fun _ => by omega) ⟨⟨rfl, rfl⟩, trivial⟩ (cosE (by rw [List.length_map]; rfl)) rfl ?_
  conv => arg 2; whnf
  refine okLoop (α := Nat × WS) (fun a => ⟨[(4, .int .i64 a.1), (1, .list 8 (l.map cSlot)), (0, .ptr 0 0)], [.cells 105 [.list 1 (a.2.1.map cByte), .bool a.2.2]]⟩) (fun a => a.1 ≤ l.length ∧ a.2 = (l.take a.1).foldl (fun w x => skB (rSlot x) w) w0) (fun a => l.length - a.1) (0, w0) ⟨Nat.zero_le _, rfl⟩ (Sv.mk' [0] rfl ⟨⟨rfl, rfl⟩, trivial⟩ ⟨rfl, rfl, rfl, trivial⟩) ?_
  rintro ⟨q, b, bad⟩ ⟨hq, he⟩
  replace hq : q ≤ l.length := hq
  replace he : (b, bad) = (l.take q).foldl (fun w x => skB (rSlot x) w) w0 := he
  have hv : b.length ≤ w0.1.length + 262200 * ((l.take q).map tSlot.sz).sum := by
    have h2 := (Wr.fold (f := fun x => skB (rSlot x)) (l.take q) (fun z0 hx => (have hx : z0 ∈ l := List.mem_of_mem_take hx; have hL := hL; (rSlot_wr z0).sk))).len w0
    rw [← he] at h2
    exact h2
  have hn : (l.map cSlot).length = l.length := List.length_map _
  have hm : l.length ≤ 4194304 := (hL).1
  rcases fold_cases he with ⟨x, hxq, hlt, hbad, hnext⟩ | hend
  · subst hbad
    have hd : decide ((q : Int) < ((l.map cSlot).length : Int)) = true := by rw [hn]; simpa using hlt
    have hx : x ∈ l := List.mem_of_getElem? hxq
    have hz := sum_at tSlot.sz hxq
    have hx' := hL.2 x hx
    have hs1 : 5 + (((x.prepares.map tVoteOf.sz).sum + 1) + ((x.commits.map tVoteOf.sz).sum + 1)) ≤ tSlot.sz x := (by have := sign_sz x.firstS; have := sign_sz x.firstS; unfold tSlot; simp only [szM, szP, szI, szB, szL]; omega)
    obtain ⟨v1, ev1⟩ : ∃ z : WS, z = wN x.seq (b, false) := ⟨_, rfl⟩
    have lv1 := (wN_wr x.seq).len (b, false)
    rw [← ev1] at lv1
    replace lv1 : v1.1.length ≤ b.length + 262200 * _ := lv1
    obtain ⟨v2, ev2⟩ : ∃ z : WS, z = wF x.has v1 := ⟨_, rfl⟩
    have lv2 := (wF_wr x.has).len v1
    rw [← ev2] at lv2
    obtain ⟨v3, ev3⟩ : ∃ z : WS, z = wN x.digest v2 := ⟨_, rfl⟩
    have lv3 := (wN_wr x.digest).len v2
    rw [← ev3] at lv3
    obtain ⟨v4, ev4⟩ : ∃ z : WS, z = wMid x v3 := ⟨_, rfl⟩
    have lv4 := (mid_wr x).len v3
    rw [← ev4] at lv4
    obtain ⟨v5, ev5⟩ : ∃ z : WS, z = rL rVoteOf x.prepares v4 := ⟨_, rfl⟩
    have lv5 := (rL_wr x.prepares fun v _ => rVoteOf_wr v).len v4
    rw [← ev5] at lv5
    obtain ⟨m1, em⟩ : ∃ z : WS, z = wSg x.firstS v3 := ⟨_, rfl⟩
    have lm := (wSg_wr x.firstS).len v3
    rw [← em] at lm
    have E : rSlot x (b, false) = rL rVoteOf x.commits v5 := by rw [ev5, ev4, ev3, ev2, ev1]; rfl
    cases hh : x.has with
    | true =>
      have hmB : v4 = wBt x.batch m1 := by rw [ev4, em]; unfold wMid; rw [if_pos hh]
      repeat'
        (conv => arg 2; whnf)
        first
        | refine okAsk (by kernel_rfl) ?_
        | refine okBoth ?_ ?_
        | refine okBrT ?_
        | refine okBrF ?_
        | refine okBrY hd ?_
        | refine okBrY (bq_t hd) ?_
        | refine okNth (cSlot x) (Int.natCast_nonneg q) (by rw [Int.toNat_natCast, List.getElem?_map, hxq]; rfl) ?_
        | refine okBrY hh ?_
        | refine okUp (x := b) (y := false) (w' := v1) (rwNum_s x.seq) ev1 (Nat.not_lt.1 fun _ => by omega) ⟨⟨rfl, rfl⟩, trivial⟩ (Cos.refl _) rfl ?_
        | refine okUr (w := v1) (w' := v2) (rwFlag_s x.has) ev2 (Nat.not_lt.1 fun _ => by omega) ⟨⟨rfl, rfl⟩, trivial⟩ (Cos.refl _) rfl ?_
        | refine okUr (w := v2) (w' := v3) (rwNum_s x.digest) ev3 (Nat.not_lt.1 fun _ => by omega) ⟨⟨rfl, rfl⟩, trivial⟩ (Cos.refl _) rfl ?_
        | refine okUr (w := v3) (w' := m1) (rwSign_s x.firstS) em (Nat.not_lt.1 fun _ => by omega) ⟨⟨rfl, rfl⟩, trivial⟩ (Cos.refl _) rfl ?_
        | refine okUr (w := m1) (w' := v4) (rwBatch_s x.batch hx'.2.2.2.2.1) hmB (Nat.not_lt.1 fun _ => by omega) ⟨⟨rfl, rfl⟩, trivial⟩ (Cos.refl _) rfl ?_
        | refine okUr (w := v4) (w' := v5) (rwVotes_s x.prepares hx'.2.2.2.2.2.1) ev5 (Nat.not_lt.1 fun _ => by omega) ⟨⟨rfl, rfl⟩, trivial⟩ (Cos.refl _) rfl ?_
        | refine okUr (w := v5) (w' := rSlot x (b, false)) (rwVotes_s x.commits hx'.2.2.2.2.2.2) E (Nat.not_lt.1 fun _ => by omega) ⟨⟨rfl, rfl⟩, trivial⟩ (Cos.refl _) rfl ?_
        | refine okWrap (w64 (wr_lo q) (wr_hi hlt hm)) ?_
        | refine okAgain (q + 1, rSlot x (b, false)) (Sv.mk' [0] rfl ⟨⟨rfl, rfl⟩, trivial⟩ ⟨rfl, rfl, rfl, trivial⟩) ⟨hlt, hnext⟩ (by show l.length - (q + 1) < l.length - q; omega)
    | false =>
      have hz4 : v4 = if (x.firstS.key = 0 ∧ x.firstS.digest = 0) ∧ x.batch.length = 0 then v3 else (v3.1, true) := by rw [ev4]; unfold wMid; rw [hh]; rfl
      by_cases hq0 : (x.firstS.key = 0 ∧ x.firstS.digest = 0) ∧ x.batch.length = 0
      · rw [if_pos hq0] at hz4
        rw [hz4] at ev5
        repeat'
          (conv => arg 2; whnf)
          first
          | refine okAsk (by kernel_rfl) ?_
          | refine okBoth ?_ ?_
          | refine okBrT ?_
          | refine okBrF ?_
          | refine okBrY hd ?_
          | refine okBrY (bq_t hd) ?_
          | refine okNth (cSlot x) (Int.natCast_nonneg q) (by rw [Int.toNat_natCast, List.getElem?_map, hxq]; rfl) ?_
          | refine okBrN hh ?_
          | refine okUp (x := b) (y := false) (w' := v1) (rwNum_s x.seq) ev1 (Nat.not_lt.1 fun _ => by omega) ⟨⟨rfl, rfl⟩, trivial⟩ (Cos.refl _) rfl ?_
          | refine okUr (w := v1) (w' := v2) (rwFlag_s x.has) ev2 (Nat.not_lt.1 fun _ => by omega) ⟨⟨rfl, rfl⟩, trivial⟩ (Cos.refl _) rfl ?_
          | refine okUr (w := v2) (w' := v3) (rwNum_s x.digest) ev3 (Nat.not_lt.1 fun _ => by omega) ⟨⟨rfl, rfl⟩, trivial⟩ (Cos.refl _) rfl ?_
          | refine okUr (w := v3) (w' := v5) (rwVotes_s x.prepares hx'.2.2.2.2.2.1) ev5 (Nat.not_lt.1 fun _ => by omega) ⟨⟨rfl, rfl⟩, trivial⟩ (Cos.refl _) rfl ?_
          | refine okUr (w := v5) (w' := rSlot x (b, false)) (rwVotes_s x.commits hx'.2.2.2.2.2.2) E (Nat.not_lt.1 fun _ => by omega) ⟨⟨rfl, rfl⟩, trivial⟩ (Cos.refl _) rfl ?_
          | refine okWrap (w64 (wr_lo q) (wr_hi hlt hm)) ?_
          | refine okAgain (q + 1, rSlot x (b, false)) (Sv.mk' [0] rfl ⟨⟨rfl, rfl⟩, trivial⟩ ⟨rfl, rfl, rfl, trivial⟩) ⟨hlt, hnext⟩ (by show l.length - (q + 1) < l.length - q; omega)
          | refine okBr (fun k => ?_) (fun k => ?_)
          | (exfalso; clear lm ev1 ev2 ev3 ev4 ev5 em E lv1 lv2 lv3 lv4 lv5 hb hv hz hs1 he hnext lw0 ew0; simp_all; done)
      · rw [if_neg hq0] at hz4
        rw [hz4] at ev5
        repeat'
          (conv => arg 2; whnf)
          first
          | refine okAsk (by kernel_rfl) ?_
          | refine okBoth ?_ ?_
          | refine okBrT ?_
          | refine okBrF ?_
          | refine okBrY hd ?_
          | refine okBrY (bq_t hd) ?_
          | refine okNth (cSlot x) (Int.natCast_nonneg q) (by rw [Int.toNat_natCast, List.getElem?_map, hxq]; rfl) ?_
          | refine okBrN hh ?_
          | refine okUp (x := b) (y := false) (w' := v1) (rwNum_s x.seq) ev1 (Nat.not_lt.1 fun _ => by omega) ⟨⟨rfl, rfl⟩, trivial⟩ (Cos.refl _) rfl ?_
          | refine okUr (w := v1) (w' := v2) (rwFlag_s x.has) ev2 (Nat.not_lt.1 fun _ => by omega) ⟨⟨rfl, rfl⟩, trivial⟩ (Cos.refl _) rfl ?_
          | refine okUr (w := v2) (w' := v3) (rwNum_s x.digest) ev3 (Nat.not_lt.1 fun _ => by omega) ⟨⟨rfl, rfl⟩, trivial⟩ (Cos.refl _) rfl ?_
          | refine okUp (x := v3.1) (y := true) (w' := v5) (rwVotes_s x.prepares hx'.2.2.2.2.2.1) ev5 (Nat.not_lt.1 fun _ => by omega) ⟨⟨rfl, rfl⟩, trivial⟩ (Cos.refl _) rfl ?_
          | refine okUr (w := v5) (w' := rSlot x (b, false)) (rwVotes_s x.commits hx'.2.2.2.2.2.2) E (Nat.not_lt.1 fun _ => by omega) ⟨⟨rfl, rfl⟩, trivial⟩ (Cos.refl _) rfl ?_
          | refine okWrap (w64 (wr_lo q) (wr_hi hlt hm)) ?_
          | refine okAgain (q + 1, rSlot x (b, false)) (Sv.mk' [0] rfl ⟨⟨rfl, rfl⟩, trivial⟩ ⟨rfl, rfl, rfl, trivial⟩) ⟨hlt, hnext⟩ (by show l.length - (q + 1) < l.length - q; omega)
          | refine okBr (fun k => ?_) (fun k => ?_)
          | (exfalso; clear lm ev1 ev2 ev3 ev4 ev5 em E lv1 lv2 lv3 lv4 lv5 hb hv hz hs1 he hnext lw0 ew0; simp_all; done)
  · have hz : (q < l.length ∧ bad = true) ∨ l.length ≤ q := by
      rcases Nat.lt_or_ge q l.length with h | h
      · exact .inl ⟨h, hend.2 h⟩
      · exact .inr h
    have hend := hend.1
    have hw : b.length ≤ w0.1.length + 262200 * (l.map tSlot.sz).sum := by
      have h2 := (Wr.fold (f := fun x => skB (rSlot x)) l (fun z0 hx => (have hx : z0 ∈ l := hx; have hL := hL; (rSlot_wr z0).sk))).len w0
      rw [← hend] at h2
      exact h2
    have hd2 : (decide ((q : Int) < ((l.map cSlot).length : Int)) = true ∧ bad = true) ∨ decide ((q : Int) < ((l.map cSlot).length : Int)) = false := by
      rw [hn]
      rcases hz with ⟨h1, h2⟩ | h1
      · exact .inl ⟨by simpa using h1, h2⟩
      · exact .inr (by simpa using h1)
    rcases hd2 with ⟨hd, hbad⟩ | hd
    all_goals
      repeat'
        (conv => arg 2; whnf)
        first
        | refine okAsk (by kernel_rfl) ?_
        | refine okBoth ?_ ?_
        | refine okBrT ?_
        | refine okBrF ?_
        | refine okBrY hd ?_
        | refine okBrN hd ?_
        | refine okBrY (bq_t hd) ?_
        | refine okBrN (bq_f hd) ?_
        | refine okBrN (bq_n hbad) ?_
        | refine okOut ?_
        | (refine endUr (.inl rfl) rfl ⟨⟨rfl, rfl⟩, trivial⟩ (.refl _) ?_; unfold rL; rw [← ew0]; exact hend)
set_option maxHeartbeats 2000000 in
theorem rwHeld_s [Wd] (l : List PreparedD) (hL : (dL dPrepared).ok l) : FnU 118 [.list 7 (l.map cPrepared)] (rL rPrep l) (262200 * ((l.map tPrepared.sz).sum + 1)) := by
  intro w hb
  have HL : l.length ≤ 4194304 := hL.1
  obtain ⟨w0, ew0⟩ : ∃ z : WS, z = rMy l.length w := ⟨_, rfl⟩
  have lw0 := (rMy_wr l.length).len w
  rw [← ew0] at lw0
  refine mkS 74 [] Tryz.func118 rfl (by kernel_rfl) ?_
  repeat'
    (conv => arg 2; whnf)
    first
    | refine okAsk (by kernel_rfl) ?_
    | refine okBoth ?_ ?_
    | refine okBrT ?_
    | refine okBrF ?_
    | refine okBr (fun h => ?_) (fun h => ?_)
    | refine okUr (w := w) (w' := w0) (rwMany_s l.length) ew0 (Nat.not_lt.1 fun _ => by omega) ⟨⟨rfl, rfl⟩, trivial⟩ (cosE (by rw [List.length_map]; rfl)) rfl ?_
  conv => arg 2; whnf
  refine okLoop (α := Nat × WS) (fun a => ⟨[(4, .int .i64 a.1), (1, .list 7 (l.map cPrepared)), (0, .ptr 0 0)], [.cells 105 [.list 1 (a.2.1.map cByte), .bool a.2.2]]⟩) (fun a => a.1 ≤ l.length ∧ a.2 = (l.take a.1).foldl (fun w x => skB (rPrep x) w) w0) (fun a => l.length - a.1) (0, w0) ⟨Nat.zero_le _, rfl⟩ (Sv.mk' [0] rfl ⟨⟨rfl, rfl⟩, trivial⟩ ⟨rfl, rfl, rfl, trivial⟩) ?_
  rintro ⟨q, b, bad⟩ ⟨hq, he⟩
  replace hq : q ≤ l.length := hq
  replace he : (b, bad) = (l.take q).foldl (fun w x => skB (rPrep x) w) w0 := he
  have hv : b.length ≤ w0.1.length + 262200 * ((l.take q).map tPrepared.sz).sum := by
    have h2 := (Wr.fold (f := fun x => skB (rPrep x)) (l.take q) (fun z0 hx => (have hx : z0 ∈ l := List.mem_of_mem_take hx; have hL := hL; (rPrep_wr z0).sk))).len w0
    rw [← he] at h2
    exact h2
  have hn : (l.map cPrepared).length = l.length := List.length_map _
  have hm : l.length ≤ 4194304 := (hL).1
  rcases fold_cases he with ⟨x, hxq, hlt, hbad, hnext⟩ | hend
  · subst hbad
    have hd : decide ((q : Int) < ((l.map cPrepared).length : Int)) = true := by rw [hn]; simpa using hlt
    have hx : x ∈ l := List.mem_of_getElem? hxq
    have hz := sum_at tPrepared.sz hxq
    have hx' := hL.2 x hx
    have hs1 : 5 + ((x.signs.map tSign.sz).sum + 1) ≤ tPrepared.sz x := by have := sign_sz x.firstS; unfold tPrepared; simp only [szM, szP, szI, szL]; omega
    obtain ⟨v1, ev1⟩ : ∃ z : WS, z = wN x.view (b, false) := ⟨_, rfl⟩
    have lv1 := (wN_wr x.view).len (b, false)
    rw [← ev1] at lv1
    replace lv1 : v1.1.length ≤ b.length + 262200 * _ := lv1
    obtain ⟨v2, ev2⟩ : ∃ z : WS, z = wN x.seq v1 := ⟨_, rfl⟩
    have lv2 := (wN_wr x.seq).len v1
    rw [← ev2] at lv2
    obtain ⟨v3, ev3⟩ : ∃ z : WS, z = wN x.digest v2 := ⟨_, rfl⟩
    have lv3 := (wN_wr x.digest).len v2
    rw [← ev3] at lv3
    obtain ⟨v4, ev4⟩ : ∃ z : WS, z = wSg x.firstS v3 := ⟨_, rfl⟩
    have lv4 := (wSg_wr x.firstS).len v3
    rw [← ev4] at lv4
    obtain ⟨v5, ev5⟩ : ∃ z : WS, z = rMy x.signs.length v4 := ⟨_, rfl⟩
    have lv5 := (rMy_wr x.signs.length).len v4
    rw [← ev5] at lv5
    repeat'
      (conv => arg 2; whnf)
      first
      | refine okAsk (by kernel_rfl) ?_
      | refine okBoth ?_ ?_
      | refine okBrT ?_
      | refine okBrF ?_
      | refine okBrY hd ?_
      | refine okBrY (bq_t hd) ?_
      | refine okNth (cPrepared x) (Int.natCast_nonneg q) (by rw [Int.toNat_natCast, List.getElem?_map, hxq]; rfl) ?_
      | refine okUp (x := b) (y := false) (w' := v1) (rwNum_s x.view) ev1 (Nat.not_lt.1 fun _ => by omega) ⟨⟨rfl, rfl⟩, trivial⟩ (Cos.refl _) rfl ?_
      | refine okUr (w := v1) (w' := v2) (rwNum_s x.seq) ev2 (Nat.not_lt.1 fun _ => by omega) ⟨⟨rfl, rfl⟩, trivial⟩ (Cos.refl _) rfl ?_
      | refine okUr (w := v2) (w' := v3) (rwNum_s x.digest) ev3 (Nat.not_lt.1 fun _ => by omega) ⟨⟨rfl, rfl⟩, trivial⟩ (Cos.refl _) rfl ?_
      | refine okUr (w := v3) (w' := v4) (rwSign_s x.firstS) ev4 (Nat.not_lt.1 fun _ => by omega) ⟨⟨rfl, rfl⟩, trivial⟩ (Cos.refl _) rfl ?_
      | refine okUr (w := v4) (w' := v5) (rwMany_s x.signs.length) ev5 (Nat.not_lt.1 fun _ => by omega) ⟨⟨rfl, rfl⟩, trivial⟩ (cosE (by rw [List.length_map]; rfl)) rfl ?_
    conv => arg 2; whnf
    refine okLoop (α := Nat × WS) (fun a => ⟨[(6, .int .i64 a.1), (5, .ptr 1 0), (4, .int .i64 q), (1, .list 7 (l.map cPrepared)), (0, .ptr 0 0)], [.cells 105 [.list 1 (a.2.1.map cByte), .bool a.2.2], .cells 75 (cPrepared x)]⟩) (fun a => a.1 ≤ x.signs.length ∧ a.2 = (x.signs.take a.1).foldl (fun w x => skB (wSg x) w) v5) (fun a => x.signs.length - a.1) (0, v5) ⟨Nat.zero_le _, rfl⟩ (Sv.mk' [0, 1] rfl ⟨⟨rfl, rfl⟩, ⟨rfl, rfl⟩, trivial⟩ ⟨rfl, rfl, rfl, rfl, rfl, trivial⟩) ?_
    rintro ⟨qi, bi, badi⟩ ⟨hqi, hei⟩
    replace hqi : qi ≤ x.signs.length := hqi
    replace hei : (bi, badi) = (x.signs.take qi).foldl (fun w x => skB (wSg x) w) v5 := hei
    have hvi : bi.length ≤ v5.1.length + 262200 * ((x.signs.take qi).map tSign.sz).sum := by
      have h2 := (Wr.fold (f := fun x => skB (wSg x)) (x.signs.take qi) (fun z0 hx => (have hx : z0 ∈ x.signs := List.mem_of_mem_take hx; have hL := hx'.2.2.2.2.1; (show Wr (wSg z0) _ _ (tSign.sz z0) from (wSg_wr z0).more (sign_sz z0)).sk))).len v5
      rw [← hei] at h2
      exact h2
    have hni : (x.signs.map cSign).length = x.signs.length := List.length_map _
    have hmi : x.signs.length ≤ 4194304 := (hx'.2.2.2.2.1).1
    rcases fold_cases hei with ⟨xi, hxqi, hlti, hbadi, hnexti⟩ | hendi
    · subst hbadi
      have hdi : decide ((qi : Int) < ((x.signs.map cSign).length : Int)) = true := by rw [hni]; simpa using hlti
      have hxi : xi ∈ x.signs := List.mem_of_getElem? hxqi
      have hzi := sum_at tSign.sz hxqi
      have hs2 := sign_sz xi
      repeat'
        (conv => arg 2; whnf)
        first
        | refine okAsk (by kernel_rfl) ?_
        | refine okBoth ?_ ?_
        | refine okBrT ?_
        | refine okBrF ?_
        | refine okBrY hdi ?_
        | refine okBrY (bq_t hdi) ?_
        | refine okNth (cSign xi) (Int.natCast_nonneg qi) (by rw [Int.toNat_natCast, List.getElem?_map, hxqi]; rfl) ?_
        | refine okUp (x := bi) (y := false) (w' := wSg xi (bi, false)) (rwSign_s xi) rfl (Nat.not_lt.1 fun _ => by omega) ⟨⟨rfl, rfl⟩, trivial⟩ (Cos.refl _) rfl ?_
        | refine okWrap (w64 (wr_lo qi) (wr_hi hlti hmi)) ?_
        | refine okAgain (qi + 1, wSg xi (bi, false)) (Sv.mk' [0, 1] rfl ⟨⟨rfl, rfl⟩, ⟨rfl, rfl⟩, trivial⟩ ⟨rfl, rfl, rfl, rfl, rfl, trivial⟩) ⟨hlti, hnexti⟩ (by show x.signs.length - (qi + 1) < x.signs.length - qi; omega)
    · have hzi : (qi < x.signs.length ∧ badi = true) ∨ x.signs.length ≤ qi := by
        rcases Nat.lt_or_ge qi x.signs.length with h | h
        · exact .inl ⟨h, hendi.2 h⟩
        · exact .inr h
      have hendi := hendi.1
      have hwi : bi.length ≤ v5.1.length + 262200 * (x.signs.map tSign.sz).sum := by
        have h2 := (Wr.fold (f := fun x => skB (wSg x)) x.signs (fun z0 hx => (have hx : z0 ∈ x.signs := hx; have hL := hx'.2.2.2.2.1; (show Wr (wSg z0) _ _ (tSign.sz z0) from (wSg_wr z0).more (sign_sz z0)).sk))).len v5
        rw [← hendi] at h2
        exact h2
      have hF : rPrep x (b, false) = wBt x.batch (bi, badi) := by rw [hendi, ev5, ev4, ev3, ev2, ev1]; rfl
      have hd2 : (decide ((qi : Int) < ((x.signs.map cSign).length : Int)) = true ∧ badi = true) ∨ decide ((qi : Int) < ((x.signs.map cSign).length : Int)) = false := by
        rw [hni]
        rcases hzi with ⟨h1, h2⟩ | h1
        · exact .inl ⟨by simpa using h1, h2⟩
        · exact .inr (by simpa using h1)
      rcases hd2 with ⟨hdi, hbadi⟩ | hdi
      all_goals
        repeat'
          (conv => arg 2; whnf)
          first
          | refine okAsk (by kernel_rfl) ?_
          | refine okBoth ?_ ?_
          | refine okBrT ?_
          | refine okBrF ?_
          | refine okBrY hdi ?_
          | refine okBrN hdi ?_
          | refine okBrY (bq_t hdi) ?_
          | refine okBrN (bq_f hdi) ?_
          | refine okBrN (bq_n hbadi) ?_
          | refine okOut ?_
          | refine okUp (x := bi) (y := badi) (w' := rPrep x (b, false)) (rwBatch_s x.batch hx'.2.2.2.2.2) hF (Nat.not_lt.1 fun _ => by omega) ⟨⟨rfl, rfl⟩, trivial⟩ (Cos.refl _) rfl ?_
          | refine okWrap (w64 (wr_lo q) (wr_hi hlt hm)) ?_
          | refine okAgain (q + 1, rPrep x (b, false)) (Sv.mk' [0] rfl ⟨⟨rfl, rfl⟩, trivial⟩ ⟨rfl, rfl, rfl, trivial⟩) ⟨hlt, hnext⟩ (by show l.length - (q + 1) < l.length - q; omega)
  · have hz : (q < l.length ∧ bad = true) ∨ l.length ≤ q := by
      rcases Nat.lt_or_ge q l.length with h | h
      · exact .inl ⟨h, hend.2 h⟩
      · exact .inr h
    have hend := hend.1
    have hw : b.length ≤ w0.1.length + 262200 * (l.map tPrepared.sz).sum := by
      have h2 := (Wr.fold (f := fun x => skB (rPrep x)) l (fun z0 hx => (have hx : z0 ∈ l := hx; have hL := hL; (rPrep_wr z0).sk))).len w0
      rw [← hend] at h2
      exact h2
    have hd2 : (decide ((q : Int) < ((l.map cPrepared).length : Int)) = true ∧ bad = true) ∨ decide ((q : Int) < ((l.map cPrepared).length : Int)) = false := by
      rw [hn]
      rcases hz with ⟨h1, h2⟩ | h1
      · exact .inl ⟨by simpa using h1, h2⟩
      · exact .inr (by simpa using h1)
    rcases hd2 with ⟨hd, hbad⟩ | hd
    all_goals
      repeat'
        (conv => arg 2; whnf)
        first
        | refine okAsk (by kernel_rfl) ?_
        | refine okBoth ?_ ?_
        | refine okBrT ?_
        | refine okBrF ?_
        | refine okBrY hd ?_
        | refine okBrN hd ?_
        | refine okBrY (bq_t hd) ?_
        | refine okBrN (bq_f hd) ?_
        | refine okBrN (bq_n hbad) ?_
        | refine okOut ?_
        | (refine endUr (.inl rfl) rfl ⟨⟨rfl, rfl⟩, trivial⟩ (.refl _) ?_; unfold rL; rw [← ew0]; exact hend)
set_option maxHeartbeats 2000000 in
theorem rwBlocks_s [Wd] (l : List BlockD) (hL : (dL dBlock).ok l) : FnU 112 [.list 7 (l.map cBlock)] (rL rBlock l) (262200 * ((l.map tBlock.sz).sum + 1)) := by
  intro w hb
  have HL : l.length ≤ 4194304 := hL.1
  obtain ⟨w0, ew0⟩ : ∃ z : WS, z = rMy l.length w := ⟨_, rfl⟩
  have lw0 := (rMy_wr l.length).len w
  rw [← ew0] at lw0
  refine mkS 84 [] Tryz.func112 rfl (by kernel_rfl) ?_
  repeat'
    (conv => arg 2; whnf)
    first
    | refine okAsk (by kernel_rfl) ?_
    | refine okBoth ?_ ?_
    | refine okBrT ?_
    | refine okBrF ?_
    | refine okBr (fun h => ?_) (fun h => ?_)
    | refine okUr (w := w) (w' := w0) (rwMany_s l.length) ew0 (Nat.not_lt.1 fun _ => by omega) ⟨⟨rfl, rfl⟩, trivial⟩ (cosE (by rw [List.length_map]; rfl)) rfl ?_
  conv => arg 2; whnf
  refine okLoop (α := Nat × WS) (fun a => ⟨[(4, .int .i64 a.1), (1, .list 7 (l.map cBlock)), (0, .ptr 0 0)], [.cells 105 [.list 1 (a.2.1.map cByte), .bool a.2.2]]⟩) (fun a => a.1 ≤ l.length ∧ a.2 = (l.take a.1).foldl (fun w x => skB (rBlock x) w) w0) (fun a => l.length - a.1) (0, w0) ⟨Nat.zero_le _, rfl⟩ (Sv.mk' [0] rfl ⟨⟨rfl, rfl⟩, trivial⟩ ⟨rfl, rfl, rfl, trivial⟩) ?_
  rintro ⟨q, b, bad⟩ ⟨hq, he⟩
  replace hq : q ≤ l.length := hq
  replace he : (b, bad) = (l.take q).foldl (fun w x => skB (rBlock x) w) w0 := he
  have hv : b.length ≤ w0.1.length + 262200 * ((l.take q).map tBlock.sz).sum := by
    have h2 := (Wr.fold (f := fun x => skB (rBlock x)) (l.take q) (fun z0 hx => (have hx : z0 ∈ l := List.mem_of_mem_take hx; have hL := hL; (rBlock_wr z0 (hL.2 z0 hx)).sk))).len w0
    rw [← he] at h2
    exact h2
  have hn : (l.map cBlock).length = l.length := List.length_map _
  have hm : l.length ≤ 4194304 := (hL).1
  rcases fold_cases he with ⟨x, hxq, hlt, hbad, hnext⟩ | hend
  · subst hbad
    have hd : decide ((q : Int) < ((l.map cBlock).length : Int)) = true := by rw [hn]; simpa using hlt
    have hx : x ∈ l := List.mem_of_getElem? hxq
    have hz := sum_at tBlock.sz hxq
    have hx' := hL.2 x hx
    have hs1 : 3 + ((x.placed.map tPlaced.sz).sum) ≤ tBlock.sz x := by have := mkHead_sz x.header; unfold tBlock; simp only [szM, szP, szL]; omega
    obtain ⟨v1, ev1⟩ : ∃ z : WS, z = wM (mkHead x.header) (b, false) := ⟨_, rfl⟩
    have lv1 := (mkHead_wr x.header).len (b, false)
    rw [← ev1] at lv1
    replace lv1 : v1.1.length ≤ b.length + 262200 * _ := lv1
    obtain ⟨v2, ev2⟩ : ∃ z : WS, z = wBt x.batch v1 := ⟨_, rfl⟩
    have lv2 := (wBt_wr x.batch).len v1
    rw [← ev2] at lv2
    obtain ⟨v3, ev3⟩ : ∃ z : WS, z = rMy x.placed.length v2 := ⟨_, rfl⟩
    have lv3 := (rMy_wr x.placed.length).len v2
    rw [← ev3] at lv3
    repeat'
      (conv => arg 2; whnf)
      first
      | refine okAsk (by kernel_rfl) ?_
      | refine okBoth ?_ ?_
      | refine okBrT ?_
      | refine okBrF ?_
      | refine okBrY hd ?_
      | refine okBrY (bq_t hd) ?_
      | refine okNth (cBlock x) (Int.natCast_nonneg q) (by rw [Int.toNat_natCast, List.getElem?_map, hxq]; rfl) ?_
      | refine okUp (x := b) (y := false) (w' := v1) (rwHeader_s x.header) ev1 (Nat.not_lt.1 fun _ => by omega) ⟨⟨rfl, rfl⟩, trivial⟩ (Cos.refl _) rfl ?_
      | refine okUr (w := v1) (w' := v2) (rwBatch_s x.batch hx'.2.1) ev2 (Nat.not_lt.1 fun _ => by omega) ⟨⟨rfl, rfl⟩, trivial⟩ (Cos.refl _) rfl ?_
      | refine okUr (w := v2) (w' := v3) (rwMany_s x.placed.length) ev3 (Nat.not_lt.1 fun _ => by omega) ⟨⟨rfl, rfl⟩, trivial⟩ (cosE (by rw [List.length_map]; rfl)) rfl ?_
    conv => arg 2; whnf
    refine okLoop (α := Nat × WS) (fun a => ⟨[(5, .int .i64 a.1), (4, .int .i64 q), (1, .list 7 (l.map cBlock)), (0, .ptr 0 0)], [.cells 105 [.list 1 (a.2.1.map cByte), .bool a.2.2]]⟩) (fun a => a.1 ≤ x.placed.length ∧ a.2 = (x.placed.take a.1).foldl (fun w x => skB (rPlaced x) w) v3) (fun a => x.placed.length - a.1) (0, v3) ⟨Nat.zero_le _, rfl⟩ (Sv.mk' [0] rfl ⟨⟨rfl, rfl⟩, trivial⟩ ⟨rfl, rfl, rfl, rfl, trivial⟩) ?_
    rintro ⟨qi, bi, badi⟩ ⟨hqi, hei⟩
    replace hqi : qi ≤ x.placed.length := hqi
    replace hei : (bi, badi) = (x.placed.take qi).foldl (fun w x => skB (rPlaced x) w) v3 := hei
    have hvi : bi.length ≤ v3.1.length + 262200 * ((x.placed.take qi).map tPlaced.sz).sum := by
      have h2 := (Wr.fold (f := fun x => skB (rPlaced x)) (x.placed.take qi) (fun z0 hx => (have hx : z0 ∈ x.placed := List.mem_of_mem_take hx; have hL := hx'.2.2; (rPlaced_wr z0 (hL.2 z0 hx)).sk))).len v3
      rw [← hei] at h2
      exact h2
    have hni : (x.placed.map cPlaced).length = x.placed.length := List.length_map _
    have hmi : x.placed.length ≤ 4194304 := (hx'.2.2).1
    rcases fold_cases hei with ⟨xi, hxqi, hlti, hbadi, hnexti⟩ | hendi
    · subst hbadi
      have hdi : decide ((qi : Int) < ((x.placed.map cPlaced).length : Int)) = true := by rw [hni]; simpa using hlti
      have hxi : xi ∈ x.placed := List.mem_of_getElem? hxqi
      have hzi := sum_at tPlaced.sz hxqi
      have hxi' := hx'.2.2.2 xi hxi
      have ht1 : xi.topic.length ≤ 4194304 := hxi'.1
      have ht2 : xi.record.length ≤ 4194304 := hxi'.2.2
      have hs2 : xi.topic.length + xi.record.length + 3 ≤ tPlaced.sz xi := by unfold tPlaced; simp only [szM, szP, szI, szS, szY]; omega
      obtain ⟨u1, eu1⟩ : ∃ z : WS, z = wB xi.topic (bi, false) := ⟨_, rfl⟩
      have lu1 := (wB_wr xi.topic ht1).len (bi, false)
      rw [← eu1] at lu1
      replace lu1 : u1.1.length ≤ bi.length + 262200 * _ := lu1
      obtain ⟨u2, eu2⟩ : ∃ z : WS, z = wN xi.offset u1 := ⟨_, rfl⟩
      have lu2 := (wN_wr xi.offset).len u1
      rw [← eu2] at lu2
      repeat'
        (conv => arg 2; whnf)
        first
        | refine okAsk (by kernel_rfl) ?_
        | refine okBoth ?_ ?_
        | refine okBrT ?_
        | refine okBrF ?_
        | refine okBrY hdi ?_
        | refine okBrY (bq_t hdi) ?_
        | refine okNth (cPlaced xi) (Int.natCast_nonneg qi) (by rw [Int.toNat_natCast, List.getElem?_map, hxqi]; rfl) ?_
        | refine okNth (cBlock x) (Int.natCast_nonneg q) (by rw [Int.toNat_natCast, List.getElem?_map, hxq]; rfl) ?_
        | refine okAsk (by omega) ?_
        | refine okUp (x := bi) (y := false) (w' := u1) (rwBytes_s xi.topic ht1) eu1 (Nat.not_lt.1 fun _ => by omega) ⟨⟨rfl, rfl⟩, trivial⟩ (Cos.refl _) rfl ?_
        | refine okUr (w := u1) (w' := u2) (rwNum_s xi.offset) eu2 (Nat.not_lt.1 fun _ => by omega) ⟨⟨rfl, rfl⟩, trivial⟩ (Cos.refl _) rfl ?_
        | refine okUr (w := u2) (w' := rPlaced xi (bi, false)) (rwBytes_s xi.record ht2) (by rw [eu2, eu1]; rfl) (Nat.not_lt.1 fun _ => by omega) ⟨⟨rfl, rfl⟩, trivial⟩ (Cos.refl _) rfl ?_
        | refine okWrap (w64 (wr_lo qi) (wr_hi hlti hmi)) ?_
        | refine okAgain (qi + 1, rPlaced xi (bi, false)) (Sv.mk' [0] rfl ⟨⟨rfl, rfl⟩, trivial⟩ ⟨rfl, rfl, rfl, rfl, trivial⟩) ⟨hlti, hnexti⟩ (by show x.placed.length - (qi + 1) < x.placed.length - qi; omega)
    · have hzi : (qi < x.placed.length ∧ badi = true) ∨ x.placed.length ≤ qi := by
        rcases Nat.lt_or_ge qi x.placed.length with h | h
        · exact .inl ⟨h, hendi.2 h⟩
        · exact .inr h
      have hendi := hendi.1
      have hwi : bi.length ≤ v3.1.length + 262200 * (x.placed.map tPlaced.sz).sum := by
        have h2 := (Wr.fold (f := fun x => skB (rPlaced x)) x.placed (fun z0 hx => (have hx : z0 ∈ x.placed := hx; have hL := hx'.2.2; (rPlaced_wr z0 (hL.2 z0 hx)).sk))).len v3
        rw [← hendi] at h2
        exact h2
      have hF : (bi, badi) = rBlock x (b, false) := by rw [hendi, ev3, ev2, ev1]; rfl
      have hd2 : (decide ((qi : Int) < ((x.placed.map cPlaced).length : Int)) = true ∧ badi = true) ∨ decide ((qi : Int) < ((x.placed.map cPlaced).length : Int)) = false := by
        rw [hni]
        rcases hzi with ⟨h1, h2⟩ | h1
        · exact .inl ⟨by simpa using h1, h2⟩
        · exact .inr (by simpa using h1)
      rcases hd2 with ⟨hdi, hbadi⟩ | hdi
      all_goals
        repeat'
          (conv => arg 2; whnf)
          first
          | refine okAsk (by kernel_rfl) ?_
          | refine okBoth ?_ ?_
          | refine okBrT ?_
          | refine okBrF ?_
          | refine okBrY hdi ?_
          | refine okBrN hdi ?_
          | refine okBrY (bq_t hdi) ?_
          | refine okBrN (bq_f hdi) ?_
          | refine okBrN (bq_n hbadi) ?_
          | refine okOut ?_
          | refine okNth (cBlock x) (Int.natCast_nonneg q) (by rw [Int.toNat_natCast, List.getElem?_map, hxq]; rfl) ?_
          | refine okWrap (w64 (wr_lo q) (wr_hi hlt hm)) ?_
          | refine okAgain (q + 1, (bi, badi)) (Sv.mk' [0] rfl ⟨⟨rfl, rfl⟩, trivial⟩ ⟨rfl, rfl, rfl, trivial⟩) ⟨hlt, hF.trans hnext⟩ (by show l.length - (q + 1) < l.length - q; omega)
  · have hz : (q < l.length ∧ bad = true) ∨ l.length ≤ q := by
      rcases Nat.lt_or_ge q l.length with h | h
      · exact .inl ⟨h, hend.2 h⟩
      · exact .inr h
    have hend := hend.1
    have hw : b.length ≤ w0.1.length + 262200 * (l.map tBlock.sz).sum := by
      have h2 := (Wr.fold (f := fun x => skB (rBlock x)) l (fun z0 hx => (have hx : z0 ∈ l := hx; have hL := hL; (rBlock_wr z0 (hL.2 z0 hx)).sk))).len w0
      rw [← hend] at h2
      exact h2
    have hd2 : (decide ((q : Int) < ((l.map cBlock).length : Int)) = true ∧ bad = true) ∨ decide ((q : Int) < ((l.map cBlock).length : Int)) = false := by
      rw [hn]
      rcases hz with ⟨h1, h2⟩ | h1
      · exact .inl ⟨by simpa using h1, h2⟩
      · exact .inr (by simpa using h1)
    rcases hd2 with ⟨hd, hbad⟩ | hd
    all_goals
      repeat'
        (conv => arg 2; whnf)
        first
        | refine okAsk (by kernel_rfl) ?_
        | refine okBoth ?_ ?_
        | refine okBrT ?_
        | refine okBrF ?_
        | refine okBrY hd ?_
        | refine okBrN hd ?_
        | refine okBrY (bq_t hd) ?_
        | refine okBrN (bq_f hd) ?_
        | refine okBrN (bq_n hbad) ?_
        | refine okOut ?_
        | (refine endUr (.inl rfl) rfl ⟨⟨rfl, rfl⟩, trivial⟩ (.refl _) ?_; unfold rL; rw [← ew0]; exact hend)
theorem room_goU {a b k r B : Nat} (h : a + 262200 * (k + r) + 400000000 ≤ B) (hb : b ≤ a + 262200 * k) : b + 262200 * r + 400000000 ≤ B := Nat.not_lt.1 fun _ => by omega
theorem room_leU {a k r m B : Nat} (h : a + 262200 * (k + r) + 400000000 ≤ B) (hm : m ≤ 262200 * k) : a + m + 400000000 ≤ B := Nat.not_lt.1 fun _ => by omega
theorem room_in {a b c k r m B : Nat} (h : a + 262200 * ((k + 1) + r) + 400000000 ≤ B) (h1 : b ≤ a + 262200 * 1) {s z : Nat} (h2 : c ≤ b + 262200 * s) (h3 : s + z ≤ k) (hm : m ≤ 262200 * z) : c + m + 400000000 ≤ B := Nat.not_lt.1 fun _ => by omega
theorem ten_le (s : Nat) : 10 ≤ 262200 * (s + 1) := by omega
theorem one_le {z : Nat} (h : 1 ≤ z) : 262200 ≤ 262200 * z := by omega
theorem bat_le {z : Nat} (h : 1 ≤ z) : 4300 ≤ 262200 * z := by omega
theorem two_le {z t : Nat} (h : 2 + t ≤ z) : 262200 ≤ 262200 * z := by omega
theorem room_in2 {a b c d k r t B : Nat} (h : a + 262200 * ((k + 1) + r) + 400000000 ≤ B) (h1 : b ≤ a + 262200 * 1) {s z : Nat} (h2 : c ≤ b + 262200 * s) (h3 : d ≤ c + 262200 * 1) (h4 : s + z ≤ k) (h5 : 2 + t ≤ z) : d + (t + 10) + 400000000 ≤ B := Nat.not_lt.1 fun _ => by omega
theorem points_wr (p : PointsD) : Wr (rPts p) ((kCertOk p.stable ∧ putsOk kVoteOk p.votes) ∧ putsOk kCertOk p.certs) ((kCertB p.stable ++ putsB kVoteB p.votes) ++ putsB kCertB p.certs) (tPoints.sz p) :=
  (((mkCert_wr p.stable).comp (rL_wr p.votes fun x _ => rVote_wr x)).comp (rL_wr p.certs fun x _ => (mkCert_wr x).more (mkCert_sz x))).more (by have := mkCert_sz p.stable; unfold tPoints; simp only [szM, szP, szL]; omega)
set_option maxHeartbeats 8000000 in
theorem rwCore_s [Wd] (c : CoreD) (hc : dCore.ok c) : FnU 28 [.agg (cCore c)] (rCore c) (262200 * tCore.sz c) := by
  intro w hb
  have q1 := mkHead_sz c.base
  unfold tCore tPool tTimer at hb
  simp only [szM, szP, szI, szY, szL, szB] at hb
  have hb0 : w.1.length + 262200 * (1 + (1 + (1 + (1 + (1 + (((c.blocks.map tBlock.sz).sum + 1) + ((c.topics.length + 1) + (tPoints.sz c.points + (((c.certs.map tCert.sz).sum + 1) + (((c.marks.map tMark.sz).sum + 1) + (((c.slots.map tSlot.sz).sum + 1) + (((c.held.map tPrepared.sz).sum + 1) + (((c.changes.map tChange.sz).sum + 1) + (((c.pool.waiting.map tSigned.sz).sum + 1) + (1 + (1 + (((c.news.map tMsg.sz).sum + 1) + (1 + 0)))))))))))))))))) + 400000000 ≤ 140737488355328 := Nat.not_lt.1 fun _ => by omega
  clear hb
  obtain ⟨w1, e1⟩ : ∃ z : WS, z = wN c.view w := ⟨_, rfl⟩
  have hb1 := room_goU hb0 (b := w1.1.length) (by have b := (wN_wr c.view).len w; rw [← e1] at b; exact b)
  obtain ⟨w2, e2⟩ : ∃ z : WS, z = wF c.active w1 := ⟨_, rfl⟩
  have hb2 := room_goU hb1 (b := w2.1.length) (by have b := (wF_wr c.active).len w1; rw [← e2] at b; exact b)
  obtain ⟨w3, e3⟩ : ∃ z : WS, z = wN c.ticks w2 := ⟨_, rfl⟩
  have hb3 := room_goU hb2 (b := w3.1.length) (by have b := (wN_wr c.ticks).len w2; rw [← e3] at b; exact b)
  obtain ⟨w4, e4⟩ : ∃ z : WS, z = wN c.floor w3 := ⟨_, rfl⟩
  have hb4 := room_goU hb3 (b := w4.1.length) (by have b := (wN_wr c.floor).len w3; rw [← e4] at b; exact b)
  obtain ⟨w5, e5⟩ : ∃ z : WS, z = wM (mkHead c.base) w4 := ⟨_, rfl⟩
  have hb5 := room_goU hb4 (b := w5.1.length) (by have b := (mkHead_wr c.base).len w4; rw [← e5] at b; exact b)
  obtain ⟨w6, e6⟩ : ∃ z : WS, z = rL rBlock c.blocks w5 := ⟨_, rfl⟩
  have hb6 := room_goU hb5 (b := w6.1.length) (by have b := (rL_wr (f := rBlock) c.blocks fun x hx => rBlock_wr x (hc.2.2.2.2.2.1.2 x hx)).len w5; rw [← e6] at b; exact b)
  obtain ⟨w7, e7⟩ : ∃ z : WS, z = wB c.topics w6 := ⟨_, rfl⟩
  have hb7 := room_goU hb6 (b := w7.1.length) (by have b := (wB_wr c.topics hc.2.2.2.2.2.2.1).len w6; rw [← e7] at b; exact b)
  obtain ⟨w8, e8⟩ : ∃ z : WS, z = rPts c.points w7 := ⟨_, rfl⟩
  have hb8 := room_goU hb7 (b := w8.1.length) (by have b := (points_wr c.points).len w7; rw [← e8] at b; exact b)
  obtain ⟨w9, e9⟩ : ∃ z : WS, z = rL wCt c.certs w8 := ⟨_, rfl⟩
  have hb9 := room_goU hb8 (b := w9.1.length) (by have b := (rL_wr (f := wCt) c.certs fun x _ => (mkCert_wr x).more (mkCert_sz x)).len w8; rw [← e9] at b; exact b)
  obtain ⟨w10, e10⟩ : ∃ z : WS, z = rL wMark c.marks w9 := ⟨_, rfl⟩
  have hb10 := room_goU hb9 (b := w10.1.length) (by have b := (rL_wr (f := wMark) c.marks fun x hx => mark_wr x (hc.2.2.2.2.2.2.2.2.2.1.2 x hx)).len w9; rw [← e10] at b; exact b)
  obtain ⟨w11, e11⟩ : ∃ z : WS, z = rL rSlot c.slots w10 := ⟨_, rfl⟩
  have hb11 := room_goU hb10 (b := w11.1.length) (by have b := (rL_wr (f := rSlot) c.slots fun x _ => rSlot_wr x).len w10; rw [← e11] at b; exact b)
  obtain ⟨w12, e12⟩ : ∃ z : WS, z = rL rPrep c.held w11 := ⟨_, rfl⟩
  have hb12 := room_goU hb11 (b := w12.1.length) (by have b := (rL_wr (f := rPrep) c.held fun x _ => rPrep_wr x).len w11; rw [← e12] at b; exact b)
  obtain ⟨w13, e13⟩ : ∃ z : WS, z = rL wCg c.changes w12 := ⟨_, rfl⟩
  have hb13 := room_goU hb12 (b := w13.1.length) (by have b := (rL_wr (f := wCg) c.changes fun x _ => (mkChg_wr x).more (mkChg_sz x)).len w12; rw [← e13] at b; exact b)
  obtain ⟨w14, e14⟩ : ∃ z : WS, z = rL wWait c.pool.waiting w13 := ⟨_, rfl⟩
  have hb14 := room_goU hb13 (b := w14.1.length) (by have b := (rL_wr (f := wWait) c.pool.waiting fun x _ => (show Wr (wWait x) _ _ _ from (wBt_wr [x]).more (signed_sz x))).len w13; rw [← e14] at b; exact b)
  obtain ⟨w15, e15⟩ : ∃ z : WS, z = wN c.timer.length w14 := ⟨_, rfl⟩
  have hb15 := room_goU hb14 (b := w15.1.length) (by have b := (wN_wr c.timer.length).len w14; rw [← e15] at b; exact b)
  obtain ⟨w16, e16⟩ : ∃ z : WS, z = wN c.timer.left w15 := ⟨_, rfl⟩
  have hb16 := room_goU hb15 (b := w16.1.length) (by have b := (wN_wr c.timer.left).len w15; rw [← e16] at b; exact b)
  obtain ⟨w17, e17⟩ : ∃ z : WS, z = rL wMs c.news w16 := ⟨_, rfl⟩
  have hb17 := room_goU hb16 (b := w17.1.length) (by have b := (rL_wr (f := wMs) c.news fun x _ => (mkMsg_wr x).more (mkMsg_sz x)).len w16; rw [← e17] at b; exact b)
  obtain ⟨m0, em⟩ : ∃ z : WS, z = rMy c.marks.length w9 := ⟨_, rfl⟩
  have lm := (rMy_wr c.marks.length).len w9
  rw [← em] at lm
  obtain ⟨g0, eg⟩ : ∃ z : WS, z = rMy c.changes.length w12 := ⟨_, rfl⟩
  have lg := (rMy_wr c.changes.length).len w12
  rw [← eg] at lg
  obtain ⟨p0, ep⟩ : ∃ z : WS, z = rMy c.pool.waiting.length w13 := ⟨_, rfl⟩
  have lp := (rMy_wr c.pool.waiting.length).len w13
  rw [← ep] at lp
  obtain ⟨n0, en⟩ : ∃ z : WS, z = rMy c.news.length w16 := ⟨_, rfl⟩
  have ln := (rMy_wr c.news.length).len w16
  rw [← en] at ln
  refine mkS 189 [] Tryz.func28 rfl (by kernel_rfl) ?_
  repeat'
    (conv => arg 2; whnf)
    first
    | refine okAsk (by kernel_rfl) ?_
    | refine okBoth ?_ ?_
    | refine okBrT ?_
    | refine okBrF ?_
    | refine okBr (fun h => ?_) (fun h => ?_)
    | refine okUr (w := w) (w' := w1) (rwNum_s c.view) e1 (room_leU (k := 1) (r := (1 + (1 + (1 + (1 + (((c.blocks.map tBlock.sz).sum + 1) + ((c.topics.length + 1) + (tPoints.sz c.points + (((c.certs.map tCert.sz).sum + 1) + (((c.marks.map tMark.sz).sum + 1) + (((c.slots.map tSlot.sz).sum + 1) + (((c.held.map tPrepared.sz).sum + 1) + (((c.changes.map tChange.sz).sum + 1) + (((c.pool.waiting.map tSigned.sz).sum + 1) + (1 + (1 + (((c.news.map tMsg.sz).sum + 1) + (1 + 0)))))))))))))))))) hb0 (show (10 : Nat) ≤ 262200 * 1 by decide)) ⟨⟨rfl, rfl⟩, trivial⟩ (Cos.refl _) rfl ?_
    | refine okUr (w := w1) (w' := w2) (rwFlag_s c.active) e2 (room_leU (k := 1) (r := (1 + (1 + (1 + (((c.blocks.map tBlock.sz).sum + 1) + ((c.topics.length + 1) + (tPoints.sz c.points + (((c.certs.map tCert.sz).sum + 1) + (((c.marks.map tMark.sz).sum + 1) + (((c.slots.map tSlot.sz).sum + 1) + (((c.held.map tPrepared.sz).sum + 1) + (((c.changes.map tChange.sz).sum + 1) + (((c.pool.waiting.map tSigned.sz).sum + 1) + (1 + (1 + (((c.news.map tMsg.sz).sum + 1) + (1 + 0))))))))))))))))) hb1 (show (10 : Nat) ≤ 262200 * 1 by decide)) ⟨⟨rfl, rfl⟩, trivial⟩ (Cos.refl _) rfl ?_
    | refine okUr (w := w2) (w' := w3) (rwNum_s c.ticks) e3 (room_leU (k := 1) (r := (1 + (1 + (((c.blocks.map tBlock.sz).sum + 1) + ((c.topics.length + 1) + (tPoints.sz c.points + (((c.certs.map tCert.sz).sum + 1) + (((c.marks.map tMark.sz).sum + 1) + (((c.slots.map tSlot.sz).sum + 1) + (((c.held.map tPrepared.sz).sum + 1) + (((c.changes.map tChange.sz).sum + 1) + (((c.pool.waiting.map tSigned.sz).sum + 1) + (1 + (1 + (((c.news.map tMsg.sz).sum + 1) + (1 + 0)))))))))))))))) hb2 (show (10 : Nat) ≤ 262200 * 1 by decide)) ⟨⟨rfl, rfl⟩, trivial⟩ (Cos.refl _) rfl ?_
    | refine okUr (w := w3) (w' := w4) (rwNum_s c.floor) e4 (room_leU (k := 1) (r := (1 + (((c.blocks.map tBlock.sz).sum + 1) + ((c.topics.length + 1) + (tPoints.sz c.points + (((c.certs.map tCert.sz).sum + 1) + (((c.marks.map tMark.sz).sum + 1) + (((c.slots.map tSlot.sz).sum + 1) + (((c.held.map tPrepared.sz).sum + 1) + (((c.changes.map tChange.sz).sum + 1) + (((c.pool.waiting.map tSigned.sz).sum + 1) + (1 + (1 + (((c.news.map tMsg.sz).sum + 1) + (1 + 0))))))))))))))) hb3 (show (10 : Nat) ≤ 262200 * 1 by decide)) ⟨⟨rfl, rfl⟩, trivial⟩ (Cos.refl _) rfl ?_
    | refine okUr (w := w4) (w' := w5) (rwHeader_s c.base) e5 (room_leU (k := 1) (r := (((c.blocks.map tBlock.sz).sum + 1) + ((c.topics.length + 1) + (tPoints.sz c.points + (((c.certs.map tCert.sz).sum + 1) + (((c.marks.map tMark.sz).sum + 1) + (((c.slots.map tSlot.sz).sum + 1) + (((c.held.map tPrepared.sz).sum + 1) + (((c.changes.map tChange.sz).sum + 1) + (((c.pool.waiting.map tSigned.sz).sum + 1) + (1 + (1 + (((c.news.map tMsg.sz).sum + 1) + (1 + 0)))))))))))))) hb4 (Nat.le_refl _)) ⟨⟨rfl, rfl⟩, trivial⟩ (Cos.refl _) rfl ?_
    | refine okUr (w := w5) (w' := w6) (rwBlocks_s c.blocks hc.2.2.2.2.2.1) e6 (room_leU (k := ((c.blocks.map tBlock.sz).sum + 1)) (r := ((c.topics.length + 1) + (tPoints.sz c.points + (((c.certs.map tCert.sz).sum + 1) + (((c.marks.map tMark.sz).sum + 1) + (((c.slots.map tSlot.sz).sum + 1) + (((c.held.map tPrepared.sz).sum + 1) + (((c.changes.map tChange.sz).sum + 1) + (((c.pool.waiting.map tSigned.sz).sum + 1) + (1 + (1 + (((c.news.map tMsg.sz).sum + 1) + (1 + 0))))))))))))) hb5 (Nat.le_refl _)) ⟨⟨rfl, rfl⟩, trivial⟩ (Cos.refl _) rfl ?_
    | refine okUr (w := w6) (w' := w7) (rwBytes_s c.topics hc.2.2.2.2.2.2.1) e7 (room_leU (k := (c.topics.length + 1)) (r := (tPoints.sz c.points + (((c.certs.map tCert.sz).sum + 1) + (((c.marks.map tMark.sz).sum + 1) + (((c.slots.map tSlot.sz).sum + 1) + (((c.held.map tPrepared.sz).sum + 1) + (((c.changes.map tChange.sz).sum + 1) + (((c.pool.waiting.map tSigned.sz).sum + 1) + (1 + (1 + (((c.news.map tMsg.sz).sum + 1) + (1 + 0)))))))))))) hb6 (byt_m _)) ⟨⟨rfl, rfl⟩, trivial⟩ (Cos.refl _) rfl ?_
    | refine okUr (w := w7) (w' := w8) (rwPoints_s c.points hc.2.2.2.2.2.2.2.1) e8 (room_leU (k := tPoints.sz c.points) (r := (((c.certs.map tCert.sz).sum + 1) + (((c.marks.map tMark.sz).sum + 1) + (((c.slots.map tSlot.sz).sum + 1) + (((c.held.map tPrepared.sz).sum + 1) + (((c.changes.map tChange.sz).sum + 1) + (((c.pool.waiting.map tSigned.sz).sum + 1) + (1 + (1 + (((c.news.map tMsg.sz).sum + 1) + (1 + 0))))))))))) hb7 (Nat.le_refl _)) ⟨⟨rfl, rfl⟩, trivial⟩ (Cos.refl _) rfl ?_
    | refine okUr (w := w8) (w' := w9) (rwCerts_s c.certs hc.2.2.2.2.2.2.2.2.1) e9 (room_leU (k := ((c.certs.map tCert.sz).sum + 1)) (r := (((c.marks.map tMark.sz).sum + 1) + (((c.slots.map tSlot.sz).sum + 1) + (((c.held.map tPrepared.sz).sum + 1) + (((c.changes.map tChange.sz).sum + 1) + (((c.pool.waiting.map tSigned.sz).sum + 1) + (1 + (1 + (((c.news.map tMsg.sz).sum + 1) + (1 + 0)))))))))) hb8 (Nat.le_refl _)) ⟨⟨rfl, rfl⟩, trivial⟩ (Cos.refl _) rfl ?_
    | refine okUr (w := w9) (w' := m0) (rwMany_s c.marks.length) em (room_leU (k := ((c.marks.map tMark.sz).sum + 1)) (r := (((c.slots.map tSlot.sz).sum + 1) + (((c.held.map tPrepared.sz).sum + 1) + (((c.changes.map tChange.sz).sum + 1) + (((c.pool.waiting.map tSigned.sz).sum + 1) + (1 + (1 + (((c.news.map tMsg.sz).sum + 1) + (1 + 0))))))))) hb9 (ten_le _)) ⟨⟨rfl, rfl⟩, trivial⟩ (cosE (by rw [List.length_map]; rfl)) rfl ?_
  conv => arg 2; whnf
  refine okLoop (α := Nat × WS) (fun a => ⟨[(4, .int .i64 a.1), (3, .ptr 1 0), (0, .ptr 0 0)], [.cells 105 [.list 1 (a.2.1.map cByte), .bool a.2.2], .cells 45 (cCore c)]⟩) (fun a => a.1 ≤ c.marks.length ∧ a.2 = (c.marks.take a.1).foldl (fun w x => skB (wMark x) w) m0) (fun a => c.marks.length - a.1) (0, m0) ⟨Nat.zero_le _, rfl⟩ (Sv.mk' [0, 1] rfl ⟨⟨rfl, rfl⟩, ⟨rfl, rfl⟩, trivial⟩ ⟨rfl, rfl, rfl, trivial⟩) ?_
  rintro ⟨q, b, bad⟩ ⟨hq, he⟩
  replace hq : q ≤ c.marks.length := hq
  replace he : (b, bad) = (c.marks.take q).foldl (fun w x => skB (wMark x) w) m0 := he
  have hv : b.length ≤ m0.1.length + 262200 * ((c.marks.take q).map tMark.sz).sum := by
    have h2 := (Wr.fold (f := fun x => skB (wMark x)) (c.marks.take q) (fun z0 hx => (have hx : z0 ∈ c.marks := List.mem_of_mem_take hx; have hL := hc.2.2.2.2.2.2.2.2.2.1; (mark_wr z0 (hL.2 z0 hx)).sk))).len m0
    rw [← he] at h2
    exact h2
  have hn : (c.marks.map cMark).length = c.marks.length := List.length_map _
  have hm : c.marks.length ≤ 4194304 := (hc.2.2.2.2.2.2.2.2.2.1).1
  rcases fold_cases he with ⟨x, hxq, hlt, hbad, hnext⟩ | hend
  · subst hbad
    have hd : decide ((q : Int) < ((c.marks.map cMark).length : Int)) = true := by rw [hn]; simpa using hlt
    have hx : x ∈ c.marks := List.mem_of_getElem? hxq
    have hz := sum_at tMark.sz hxq
    have hs1 : 2 + x.topics.length ≤ tMark.sz x := by have := mkHead_sz x.header; unfold tMark; simp only [szM, szP, szY]; omega
    obtain ⟨v1, ev1⟩ : ∃ z : WS, z = wM (mkHead x.header) (b, false) := ⟨_, rfl⟩
    have lv1 := (mkHead_wr x.header).len (b, false)
    rw [← ev1] at lv1
    replace lv1 : v1.1.length ≤ b.length + 262200 * _ := lv1
    repeat'
      (conv => arg 2; whnf)
      first
      | refine okAsk (by kernel_rfl) ?_
      | refine okBoth ?_ ?_
      | refine okBrT ?_
      | refine okBrF ?_
      | refine okBrY hd ?_
      | refine okBrY (bq_t hd) ?_
      | refine okNth (cMark x) (Int.natCast_nonneg q) (by rw [Int.toNat_natCast, List.getElem?_map, hxq]; rfl) ?_
      | refine okUp (x := b) (y := false) (w' := v1) (rwHeader_s x.header) ev1 (room_in (r := (((c.slots.map tSlot.sz).sum + 1) + (((c.held.map tPrepared.sz).sum + 1) + (((c.changes.map tChange.sz).sum + 1) + (((c.pool.waiting.map tSigned.sz).sum + 1) + (1 + (1 + (((c.news.map tMsg.sz).sum + 1) + (1 + 0))))))))) hb9 lm hv hz (two_le hs1)) ⟨⟨rfl, rfl⟩, trivial⟩ (Cos.refl _) rfl ?_
      | refine okUr (w := v1) (w' := wMark x (b, false)) (rwBytes_s x.topics (hc.2.2.2.2.2.2.2.2.2.1.2 x hx).2) (by rw [ev1]; rfl) (room_in2 (r := (((c.slots.map tSlot.sz).sum + 1) + (((c.held.map tPrepared.sz).sum + 1) + (((c.changes.map tChange.sz).sum + 1) + (((c.pool.waiting.map tSigned.sz).sum + 1) + (1 + (1 + (((c.news.map tMsg.sz).sum + 1) + (1 + 0))))))))) hb9 lm hv lv1 hz hs1) ⟨⟨rfl, rfl⟩, trivial⟩ (Cos.refl _) rfl ?_
      | refine okWrap (w64 (wr_lo q) (wr_hi hlt hm)) ?_
      | refine okAgain (q + 1, wMark x (b, false)) (Sv.mk' [0, 1] rfl ⟨⟨rfl, rfl⟩, ⟨rfl, rfl⟩, trivial⟩ ⟨rfl, rfl, rfl, trivial⟩) ⟨hlt, hnext⟩ (by show c.marks.length - (q + 1) < c.marks.length - q; omega)
  · have hz : (q < c.marks.length ∧ bad = true) ∨ c.marks.length ≤ q := by
      rcases Nat.lt_or_ge q c.marks.length with h | h
      · exact .inl ⟨h, hend.2 h⟩
      · exact .inr h
    have hend := hend.1
    have hw : b.length ≤ m0.1.length + 262200 * (c.marks.map tMark.sz).sum := by
      have h2 := (Wr.fold (f := fun x => skB (wMark x)) c.marks (fun z0 hx => (have hx : z0 ∈ c.marks := hx; have hL := hc.2.2.2.2.2.2.2.2.2.1; (mark_wr z0 (hL.2 z0 hx)).sk))).len m0
      rw [← hend] at h2
      exact h2
    have hE : w10 = (b, bad) := by rw [e10, hend, em]; rfl
    have hd2 : (decide ((q : Int) < ((c.marks.map cMark).length : Int)) = true ∧ bad = true) ∨ decide ((q : Int) < ((c.marks.map cMark).length : Int)) = false := by
      rw [hn]
      rcases hz with ⟨h1, h2⟩ | h1
      · exact .inl ⟨by simpa using h1, h2⟩
      · exact .inr (by simpa using h1)
    rcases hd2 with ⟨hd, hbad⟩ | hd
    all_goals
      repeat'
        (conv => arg 2; whnf)
        first
        | refine okAsk (by kernel_rfl) ?_
        | refine okBoth ?_ ?_
        | refine okBrT ?_
        | refine okBrF ?_
        | refine okBrY hd ?_
        | refine okBrN hd ?_
        | refine okBrY (bq_t hd) ?_
        | refine okBrN (bq_f hd) ?_
        | refine okBrN (bq_n hbad) ?_
        | refine okOut ?_
        | refine okUp (x := b) (y := bad) (w' := w11) (rwSlots_s c.slots hc.2.2.2.2.2.2.2.2.2.2.1) (by rw [← hE]; exact e11) (room_leU (k := ((c.slots.map tSlot.sz).sum + 1)) (r := (((c.held.map tPrepared.sz).sum + 1) + (((c.changes.map tChange.sz).sum + 1) + (((c.pool.waiting.map tSigned.sz).sum + 1) + (1 + (1 + (((c.news.map tMsg.sz).sum + 1) + (1 + 0)))))))) (by rw [hE] at hb10; exact hb10) (Nat.le_refl _)) ⟨⟨rfl, rfl⟩, trivial⟩ (Cos.refl _) rfl ?_
        | refine okUr (w := w11) (w' := w12) (rwHeld_s c.held hc.2.2.2.2.2.2.2.2.2.2.2.1) e12 (room_leU (k := ((c.held.map tPrepared.sz).sum + 1)) (r := (((c.changes.map tChange.sz).sum + 1) + (((c.pool.waiting.map tSigned.sz).sum + 1) + (1 + (1 + (((c.news.map tMsg.sz).sum + 1) + (1 + 0))))))) hb11 (Nat.le_refl _)) ⟨⟨rfl, rfl⟩, trivial⟩ (Cos.refl _) rfl ?_
        | refine okUr (w := w12) (w' := g0) (rwMany_s c.changes.length) eg (room_leU (k := ((c.changes.map tChange.sz).sum + 1)) (r := (((c.pool.waiting.map tSigned.sz).sum + 1) + (1 + (1 + (((c.news.map tMsg.sz).sum + 1) + (1 + 0)))))) hb12 (ten_le _)) ⟨⟨rfl, rfl⟩, trivial⟩ (cosE (by rw [List.length_map]; rfl)) rfl ?_
    all_goals
      (conv => arg 2; whnf)
      refine okLoop (α := Nat × WS) (fun a => ⟨[(5, .int .i64 a.1), (3, .ptr 1 0), (0, .ptr 0 0)], [.cells 105 [.list 1 (a.2.1.map cByte), .bool a.2.2], .cells 45 (cCore c)]⟩) (fun a => a.1 ≤ c.changes.length ∧ a.2 = (c.changes.take a.1).foldl (fun w x => skB (wCg x) w) g0) (fun a => c.changes.length - a.1) (0, g0) ⟨Nat.zero_le _, rfl⟩ (Sv.mk' [0, 1] rfl ⟨⟨rfl, rfl⟩, ⟨rfl, rfl⟩, trivial⟩ ⟨rfl, rfl, rfl, trivial⟩) ?_
      rintro ⟨q, b, bad⟩ ⟨hq, he⟩
      replace hq : q ≤ c.changes.length := hq
      replace he : (b, bad) = (c.changes.take q).foldl (fun w x => skB (wCg x) w) g0 := he
      have hv : b.length ≤ g0.1.length + 262200 * ((c.changes.take q).map tChange.sz).sum := by
        have h2 := (Wr.fold (f := fun x => skB (wCg x)) (c.changes.take q) (fun z0 hx => (have hx : z0 ∈ c.changes := List.mem_of_mem_take hx; have hL := hc.2.2.2.2.2.2.2.2.2.2.2.2.1; (show Wr (wCg z0) _ _ (tChange.sz z0) from (mkChg_wr z0).more (mkChg_sz z0)).sk))).len g0
        rw [← he] at h2
        exact h2
      have hn : (c.changes.map cChange).length = c.changes.length := List.length_map _
      have hm : c.changes.length ≤ 4194304 := (hc.2.2.2.2.2.2.2.2.2.2.2.2.1).1
      rcases fold_cases he with ⟨x, hxq, hlt, hbad, hnext⟩ | hend
      · subst hbad
        have hd : decide ((q : Int) < ((c.changes.map cChange).length : Int)) = true := by rw [hn]; simpa using hlt
        have hx : x ∈ c.changes := List.mem_of_getElem? hxq
        have hz := sum_at tChange.sz hxq
        have hs1 := mkChg_sz x
        rcases mkChange_two x (hc.2.2.2.2.2.2.2.2.2.2.2.2.1.2 x hx) with ⟨bs, hk, hl, hc1⟩ | ⟨ee, hk, hc1⟩
        all_goals
          repeat'
            (conv => arg 2; whnf)
            first
            | refine okAsk (by kernel_rfl) ?_
            | refine okBoth ?_ ?_
            | refine okBrT ?_
            | refine okBrF ?_
            | refine okBrY hd ?_
            | refine okBrY (bq_t hd) ?_
            | refine okNth (cChange x) (Int.natCast_nonneg q) (by rw [Int.toNat_natCast, List.getElem?_map, hxq]; rfl) ?_
            | refine okFn hc1 rfl (Cos.refl _) ?_
            | refine okUp (x := b) (y := false) (w' := wCg x (b, false)) (rwMade_s (bs, 0) hl) (by rw [← hk]; rfl) (room_in (r := (((c.pool.waiting.map tSigned.sz).sum + 1) + (1 + (1 + (((c.news.map tMsg.sz).sum + 1) + (1 + 0)))))) hb12 lg hv hz (one_le hs1)) ⟨⟨rfl, rfl⟩, trivial⟩ (Cos.refl _) rfl ?_
            | refine okUp (x := b) (y := false) (w' := wCg x (b, false)) (rwMade_s ([], ee) (Nat.zero_le _)) (by rw [← hk]; rfl) (room_in (r := (((c.pool.waiting.map tSigned.sz).sum + 1) + (1 + (1 + (((c.news.map tMsg.sz).sum + 1) + (1 + 0)))))) hb12 lg hv hz (one_le hs1)) ⟨⟨rfl, rfl⟩, trivial⟩ (Cos.cons (.refl _) (Cos.cons (.nil _) (Cos.cons (.refl _) .nil))) rfl ?_
            | refine okWrap (w64 (wr_lo q) (wr_hi hlt hm)) ?_
            | refine okAgain (q + 1, wCg x (b, false)) (Sv.mk' [0, 1] rfl ⟨⟨rfl, rfl⟩, ⟨rfl, rfl⟩, trivial⟩ ⟨rfl, rfl, rfl, trivial⟩) ⟨hlt, hnext⟩ (by show c.changes.length - (q + 1) < c.changes.length - q; omega)
      · have hz : (q < c.changes.length ∧ bad = true) ∨ c.changes.length ≤ q := by
          rcases Nat.lt_or_ge q c.changes.length with h | h
          · exact .inl ⟨h, hend.2 h⟩
          · exact .inr h
        have hend := hend.1
        have hw : b.length ≤ g0.1.length + 262200 * (c.changes.map tChange.sz).sum := by
          have h2 := (Wr.fold (f := fun x => skB (wCg x)) c.changes (fun z0 hx => (have hx : z0 ∈ c.changes := hx; have hL := hc.2.2.2.2.2.2.2.2.2.2.2.2.1; (show Wr (wCg z0) _ _ (tChange.sz z0) from (mkChg_wr z0).more (mkChg_sz z0)).sk))).len g0
          rw [← hend] at h2
          exact h2
        have hE : w13 = (b, bad) := by rw [e13, hend, eg]; rfl
        have hd2 : (decide ((q : Int) < ((c.changes.map cChange).length : Int)) = true ∧ bad = true) ∨ decide ((q : Int) < ((c.changes.map cChange).length : Int)) = false := by
          rw [hn]
          rcases hz with ⟨h1, h2⟩ | h1
          · exact .inl ⟨by simpa using h1, h2⟩
          · exact .inr (by simpa using h1)
        rcases hd2 with ⟨hd, hbad⟩ | hd
        all_goals
          repeat'
            (conv => arg 2; whnf)
            first
            | refine okAsk (by kernel_rfl) ?_
            | refine okBoth ?_ ?_
            | refine okBrT ?_
            | refine okBrF ?_
            | refine okBrY hd ?_
            | refine okBrN hd ?_
            | refine okBrY (bq_t hd) ?_
            | refine okBrN (bq_f hd) ?_
            | refine okBrN (bq_n hbad) ?_
            | refine okOut ?_
            | refine okUp (x := b) (y := bad) (w' := p0) (rwMany_s c.pool.waiting.length) (by rw [← hE]; exact ep) (room_leU (k := ((c.pool.waiting.map tSigned.sz).sum + 1)) (r := (1 + (1 + (((c.news.map tMsg.sz).sum + 1) + (1 + 0))))) (by rw [hE] at hb13; exact hb13) (ten_le _)) ⟨⟨rfl, rfl⟩, trivial⟩ (cosE (by rw [List.length_map]; rfl)) rfl ?_
        all_goals
          (conv => arg 2; whnf)
          refine okLoop (α := Nat × WS) (fun a => ⟨[(6, .int .i64 a.1), (3, .ptr 1 0), (0, .ptr 0 0)], [.cells 105 [.list 1 (a.2.1.map cByte), .bool a.2.2], .cells 45 (cCore c)]⟩) (fun a => a.1 ≤ c.pool.waiting.length ∧ a.2 = (c.pool.waiting.take a.1).foldl (fun w x => skB (wWait x) w) p0) (fun a => c.pool.waiting.length - a.1) (0, p0) ⟨Nat.zero_le _, rfl⟩ (Sv.mk' [0, 1] rfl ⟨⟨rfl, rfl⟩, ⟨rfl, rfl⟩, trivial⟩ ⟨rfl, rfl, rfl, trivial⟩) ?_
          rintro ⟨q, b, bad⟩ ⟨hq, he⟩
          replace hq : q ≤ c.pool.waiting.length := hq
          replace he : (b, bad) = (c.pool.waiting.take q).foldl (fun w x => skB (wWait x) w) p0 := he
          have hv : b.length ≤ p0.1.length + 262200 * ((c.pool.waiting.take q).map tSigned.sz).sum := by
            have h2 := (Wr.fold (f := fun x => skB (wWait x)) (c.pool.waiting.take q) (fun z0 hx => (have hx : z0 ∈ c.pool.waiting := List.mem_of_mem_take hx; have hL := hc.2.2.2.2.2.2.2.2.2.2.2.2.2.1; (show Wr (wWait z0) _ _ (tSigned.sz z0) from (wBt_wr [z0]).more (signed_sz z0)).sk))).len p0
            rw [← he] at h2
            exact h2
          have hn : (c.pool.waiting.map cSigned).length = c.pool.waiting.length := List.length_map _
          have hm : c.pool.waiting.length ≤ 4194304 := (hc.2.2.2.2.2.2.2.2.2.2.2.2.2.1).1
          rcases fold_cases he with ⟨x, hxq, hlt, hbad, hnext⟩ | hend
          · subst hbad
            have hd : decide ((q : Int) < ((c.pool.waiting.map cSigned).length : Int)) = true := by rw [hn]; simpa using hlt
            have hx : x ∈ c.pool.waiting := List.mem_of_getElem? hxq
            have hz := sum_at tSigned.sz hxq
            have hs1 := signed_sz x
            repeat'
              (conv => arg 2; whnf)
              first
              | refine okAsk (by kernel_rfl) ?_
              | refine okBoth ?_ ?_
              | refine okBrT ?_
              | refine okBrF ?_
              | refine okBrY hd ?_
              | refine okBrY (bq_t hd) ?_
              | refine okNth (cSigned x) (Int.natCast_nonneg q) (by rw [Int.toNat_natCast, List.getElem?_map, hxq]; rfl) ?_
              | refine okUp (x := b) (y := false) (w' := wWait x (b, false)) (rwBatch_s [x] ⟨by simp, fun y hy => by rw [List.mem_singleton.1 hy]; exact hc.2.2.2.2.2.2.2.2.2.2.2.2.2.1.2 x hx⟩) rfl (room_in (r := (1 + (1 + (((c.news.map tMsg.sz).sum + 1) + (1 + 0))))) hb13 lp hv hz (bat_le hs1)) ⟨⟨rfl, rfl⟩, trivial⟩ (Cos.refl _) rfl ?_
              | refine okWrap (w64 (wr_lo q) (wr_hi hlt hm)) ?_
              | refine okAgain (q + 1, wWait x (b, false)) (Sv.mk' [0, 1] rfl ⟨⟨rfl, rfl⟩, ⟨rfl, rfl⟩, trivial⟩ ⟨rfl, rfl, rfl, trivial⟩) ⟨hlt, hnext⟩ (by show c.pool.waiting.length - (q + 1) < c.pool.waiting.length - q; omega)
          · have hz : (q < c.pool.waiting.length ∧ bad = true) ∨ c.pool.waiting.length ≤ q := by
              rcases Nat.lt_or_ge q c.pool.waiting.length with h | h
              · exact .inl ⟨h, hend.2 h⟩
              · exact .inr h
            have hend := hend.1
            have hw : b.length ≤ p0.1.length + 262200 * (c.pool.waiting.map tSigned.sz).sum := by
              have h2 := (Wr.fold (f := fun x => skB (wWait x)) c.pool.waiting (fun z0 hx => (have hx : z0 ∈ c.pool.waiting := hx; have hL := hc.2.2.2.2.2.2.2.2.2.2.2.2.2.1; (show Wr (wWait z0) _ _ (tSigned.sz z0) from (wBt_wr [z0]).more (signed_sz z0)).sk))).len p0
              rw [← hend] at h2
              exact h2
            have hE : w14 = (b, bad) := by rw [e14, hend, ep]; rfl
            have hd2 : (decide ((q : Int) < ((c.pool.waiting.map cSigned).length : Int)) = true ∧ bad = true) ∨ decide ((q : Int) < ((c.pool.waiting.map cSigned).length : Int)) = false := by
              rw [hn]
              rcases hz with ⟨h1, h2⟩ | h1
              · exact .inl ⟨by simpa using h1, h2⟩
              · exact .inr (by simpa using h1)
            rcases hd2 with ⟨hd, hbad⟩ | hd
            all_goals
              repeat'
                (conv => arg 2; whnf)
                first
                | refine okAsk (by kernel_rfl) ?_
                | refine okBoth ?_ ?_
                | refine okBrT ?_
                | refine okBrF ?_
                | refine okBrY hd ?_
                | refine okBrN hd ?_
                | refine okBrY (bq_t hd) ?_
                | refine okBrN (bq_f hd) ?_
                | refine okBrN (bq_n hbad) ?_
                | refine okOut ?_
                | refine okUp (x := b) (y := bad) (w' := w15) (rwNum_s c.timer.length) (by rw [← hE]; exact e15) (room_leU (k := 1) (r := (1 + (((c.news.map tMsg.sz).sum + 1) + (1 + 0)))) (by rw [hE] at hb14; exact hb14) (show (10 : Nat) ≤ 262200 * 1 by decide)) ⟨⟨rfl, rfl⟩, trivial⟩ (Cos.refl _) rfl ?_
                | refine okUr (w := w15) (w' := w16) (rwNum_s c.timer.left) e16 (room_leU (k := 1) (r := (((c.news.map tMsg.sz).sum + 1) + (1 + 0))) hb15 (show (10 : Nat) ≤ 262200 * 1 by decide)) ⟨⟨rfl, rfl⟩, trivial⟩ (Cos.refl _) rfl ?_
                | refine okUr (w := w16) (w' := n0) (rwMany_s c.news.length) en (room_leU (k := ((c.news.map tMsg.sz).sum + 1)) (r := (1 + 0)) hb16 (ten_le _)) ⟨⟨rfl, rfl⟩, trivial⟩ (cosE (by rw [List.length_map]; rfl)) rfl ?_
            all_goals
              (conv => arg 2; whnf)
              refine okLoop (α := Nat × WS) (fun a => ⟨[(7, .int .i64 a.1), (3, .ptr 1 0), (0, .ptr 0 0)], [.cells 105 [.list 1 (a.2.1.map cByte), .bool a.2.2], .cells 45 (cCore c)]⟩) (fun a => a.1 ≤ c.news.length ∧ a.2 = (c.news.take a.1).foldl (fun w x => skB (wMs x) w) n0) (fun a => c.news.length - a.1) (0, n0) ⟨Nat.zero_le _, rfl⟩ (Sv.mk' [0, 1] rfl ⟨⟨rfl, rfl⟩, ⟨rfl, rfl⟩, trivial⟩ ⟨rfl, rfl, rfl, trivial⟩) ?_
              rintro ⟨q, b, bad⟩ ⟨hq, he⟩
              replace hq : q ≤ c.news.length := hq
              replace he : (b, bad) = (c.news.take q).foldl (fun w x => skB (wMs x) w) n0 := he
              have hv : b.length ≤ n0.1.length + 262200 * ((c.news.take q).map tMsg.sz).sum := by
                have h2 := (Wr.fold (f := fun x => skB (wMs x)) (c.news.take q) (fun z0 hx => (have hx : z0 ∈ c.news := List.mem_of_mem_take hx; have hL := hc.2.2.2.2.2.2.2.2.2.2.2.2.2.2.2.1; (show Wr (wMs z0) _ _ (tMsg.sz z0) from (mkMsg_wr z0).more (mkMsg_sz z0)).sk))).len n0
                rw [← he] at h2
                exact h2
              have hn : (c.news.map cMsg).length = c.news.length := List.length_map _
              have hm : c.news.length ≤ 4194304 := (hc.2.2.2.2.2.2.2.2.2.2.2.2.2.2.2.1).1
              rcases fold_cases he with ⟨x, hxq, hlt, hbad, hnext⟩ | hend
              · subst hbad
                have hd : decide ((q : Int) < ((c.news.map cMsg).length : Int)) = true := by rw [hn]; simpa using hlt
                have hx : x ∈ c.news := List.mem_of_getElem? hxq
                have hz := sum_at tMsg.sz hxq
                have hs1 := mkMsg_sz x
                rcases mkMsg_two x (hc.2.2.2.2.2.2.2.2.2.2.2.2.2.2.2.1.2 x hx) with ⟨bs, hk, hl, hc1⟩ | ⟨ee, hk, hc1⟩
                all_goals
                  repeat'
                    (conv => arg 2; whnf)
                    first
                    | refine okAsk (by kernel_rfl) ?_
                    | refine okBoth ?_ ?_
                    | refine okBrT ?_
                    | refine okBrF ?_
                    | refine okBrY hd ?_
                    | refine okBrY (bq_t hd) ?_
                    | refine okNth (cMsg x) (Int.natCast_nonneg q) (by rw [Int.toNat_natCast, List.getElem?_map, hxq]; rfl) ?_
                    | refine okFn hc1 rfl (Cos.refl _) ?_
                    | refine okUp (x := b) (y := false) (w' := wMs x (b, false)) (rwMade_s (bs, 0) hl) (by rw [← hk]; rfl) (room_in (r := (1 + 0)) hb16 ln hv hz (one_le hs1)) ⟨⟨rfl, rfl⟩, trivial⟩ (Cos.refl _) rfl ?_
                    | refine okUp (x := b) (y := false) (w' := wMs x (b, false)) (rwMade_s ([], ee) (Nat.zero_le _)) (by rw [← hk]; rfl) (room_in (r := (1 + 0)) hb16 ln hv hz (one_le hs1)) ⟨⟨rfl, rfl⟩, trivial⟩ (Cos.cons (.refl _) (Cos.cons (.nil _) (Cos.cons (.refl _) .nil))) rfl ?_
                    | refine okWrap (w64 (wr_lo q) (wr_hi hlt hm)) ?_
                    | refine okAgain (q + 1, wMs x (b, false)) (Sv.mk' [0, 1] rfl ⟨⟨rfl, rfl⟩, ⟨rfl, rfl⟩, trivial⟩ ⟨rfl, rfl, rfl, trivial⟩) ⟨hlt, hnext⟩ (by show c.news.length - (q + 1) < c.news.length - q; omega)
              · have hz : (q < c.news.length ∧ bad = true) ∨ c.news.length ≤ q := by
                  rcases Nat.lt_or_ge q c.news.length with h | h
                  · exact .inl ⟨h, hend.2 h⟩
                  · exact .inr h
                have hend := hend.1
                have hw : b.length ≤ n0.1.length + 262200 * (c.news.map tMsg.sz).sum := by
                  have h2 := (Wr.fold (f := fun x => skB (wMs x)) c.news (fun z0 hx => (have hx : z0 ∈ c.news := hx; have hL := hc.2.2.2.2.2.2.2.2.2.2.2.2.2.2.2.1; (show Wr (wMs z0) _ _ (tMsg.sz z0) from (mkMsg_wr z0).more (mkMsg_sz z0)).sk))).len n0
                  rw [← hend] at h2
                  exact h2
                have hE : w17 = (b, bad) := by rw [e17, hend, en]; rfl
                have hd2 : (decide ((q : Int) < ((c.news.map cMsg).length : Int)) = true ∧ bad = true) ∨ decide ((q : Int) < ((c.news.map cMsg).length : Int)) = false := by
                  rw [hn]
                  rcases hz with ⟨h1, h2⟩ | h1
                  · exact .inl ⟨by simpa using h1, h2⟩
                  · exact .inr (by simpa using h1)
                rcases hd2 with ⟨hd, hbad⟩ | hd
                all_goals
                  repeat'
                    (conv => arg 2; whnf)
                    first
                    | refine okAsk (by kernel_rfl) ?_
                    | refine okBoth ?_ ?_
                    | refine okBrT ?_
                    | refine okBrF ?_
                    | refine okBrY hd ?_
                    | refine okBrN hd ?_
                    | refine okBrY (bq_t hd) ?_
                    | refine okBrN (bq_f hd) ?_
                    | refine okBrN (bq_n hbad) ?_
                    | refine okOut ?_
                    | refine okUp (x := b) (y := bad) (w' := wN c.wants (b, bad)) (rwNum_s c.wants) rfl (by rw [show b = w17.1 by rw [hE]]; exact room_leU (k := 1) (r := 0) hb17 (show (10 : Nat) ≤ 262200 * 1 by decide)) ⟨⟨rfl, rfl⟩, trivial⟩ (Cos.refl _) rfl ?_
                    | (refine endUr (.inl rfl) rfl ⟨⟨rfl, rfl⟩, trivial⟩ (.refl _) ?_; rw [← hE, e17, e16, e15, e14, e13, e12, e11, e10, e9, e8, e7, e6, e5, e4, e3, e2, e1]; rfl)
theorem core_badU {c : CoreD} (hc : dCore.ok c) (ho : ¬ coreOk c) : ∃ x, (x, true) = rCore c ([], false) := by
  have := (rCore_wr c hc).no ho ([], false)
  exact ⟨(rCore c ([], false)).1, by rw [← this]⟩
theorem okUr1 [Wd] {Q : Exit → S → Prop} {f : FuncId} {ar ar' : List D} {F : WS → WS} {k : Nat} {hb : List AO} {c : D → List AO → T} {w w' : WS} (hF : FnU f ar F k) (e : w' = F w) (hl : w.1.length + k + 400000000 ≤ 140737488355328) (hv : vwP hb [1] [1] (oU w)) (hc : Cos ar' (D.ren.rl [1] (.ptr 0 0 :: ar))) (hM : ([1].all fun o => (foot hb ar').elem o) = true) (kk : (c (.tup []) (upH hb [1] (oU w) (oU w'))).ok Tryz.prog Q) : (T.call f ar' hb c).ok Tryz.prog Q := by
  subst e
  exact okCall [1] (hF w hl) (.mk' rfl hv) hc hM kk
theorem rwBytesY_s [Wd] (c : CoreD) (hc : dCore.ok c) (hs : tCore.sz c ≤ 1048576) (ho : coreOk c) (hl : (coreB c).length ≤ 4194304) : FnP Tryz.prog 12 [.agg (cCore c)] (.tup [.list 1 ((coreB c).map cByte), .int .i64 0]) := by
  have hw := (rCore_wr c hc).yes ho ([], false) rfl
  simp only [List.nil_append] at hw
  replace hw := hw.symm
  generalize coreB c = xs at *
  refine mkS 24 [] Tryz.func12 rfl (by kernel_rfl) ?_
  repeat'
    (conv => arg 2; whnf)
    first
    | refine okAsk (by kernel_rfl) ?_
    | refine okBoth ?_ ?_
    | refine okBrT ?_
    | refine okBrF ?_
    | refine okBr (fun h => ?_) (fun h => ?_)
    | refine okWeak 1 [.list 1 [], .bool false] rfl (Cos.cons (.nil _) (Cos.cons (.refl _) .nil)) rfl rfl ?_
    | refine okUr1 (w := ([], false)) (w' := (xs, false)) (rwCore_s c hc) hw (by show 0 + 262200 * tCore.sz c + 400000000 ≤ 140737488355328; exact Nat.not_lt.1 fun _ => by omega) ⟨⟨rfl, rfl⟩, trivial⟩ (Cos.refl _) rfl ?_
    | refine endFn0 (.inr rfl) rfl (.refl _) rfl
    | (exfalso; simp at h; omega)
    | (exfalso; simp_all; done)
theorem rwBytesL_s [Wd] (c : CoreD) (hc : dCore.ok c) (hs : tCore.sz c ≤ 1048576) (ho : coreOk c) (hl : 4194304 < (coreB c).length) : FnP Tryz.prog 12 [.agg (cCore c)] (.tup [.nils, .int .i64 3]) := by
  have hw := (rCore_wr c hc).yes ho ([], false) rfl
  simp only [List.nil_append] at hw
  replace hw := hw.symm
  generalize coreB c = xs at *
  refine mkS 24 [] Tryz.func12 rfl (by kernel_rfl) ?_
  repeat'
    (conv => arg 2; whnf)
    first
    | refine okAsk (by kernel_rfl) ?_
    | refine okBoth ?_ ?_
    | refine okBrT ?_
    | refine okBrF ?_
    | refine okBr (fun h => ?_) (fun h => ?_)
    | refine okWeak 1 [.list 1 [], .bool false] rfl (Cos.cons (.nil _) (Cos.cons (.refl _) .nil)) rfl rfl ?_
    | refine okUr1 (w := ([], false)) (w' := (xs, false)) (rwCore_s c hc) hw (by show 0 + 262200 * tCore.sz c + 400000000 ≤ 140737488355328; exact Nat.not_lt.1 fun _ => by omega) ⟨⟨rfl, rfl⟩, trivial⟩ (Cos.refl _) rfl ?_
    | refine endFn0 (.inr rfl) rfl (.refl _) rfl
    | (exfalso; simp at h; omega)
    | (exfalso; simp_all; done)
theorem rwBytesN_s [Wd] (c : CoreD) (hc : dCore.ok c) (hs : tCore.sz c ≤ 1048576) (ho : ¬ coreOk c) : FnP Tryz.prog 12 [.agg (cCore c)] (.tup [.nils, .int .i64 200]) := by
  obtain ⟨x, hw⟩ := core_badU hc ho
  refine mkS 24 [] Tryz.func12 rfl (by kernel_rfl) ?_
  repeat'
    (conv => arg 2; whnf)
    first
    | refine okAsk (by kernel_rfl) ?_
    | refine okBoth ?_ ?_
    | refine okBrT ?_
    | refine okBrF ?_
    | refine okBr (fun h => ?_) (fun h => ?_)
    | refine okWeak 1 [.list 1 [], .bool false] rfl (Cos.cons (.nil _) (Cos.cons (.refl _) .nil)) rfl rfl ?_
    | refine okUr1 (w := ([], false)) (w' := (x, true)) (rwCore_s c hc) hw (by show 0 + 262200 * tCore.sz c + 400000000 ≤ 140737488355328; exact Nat.not_lt.1 fun _ => by omega) ⟨⟨rfl, rfl⟩, trivial⟩ (Cos.refl _) rfl ?_
    | refine endFn0 (.inr rfl) rfl (.refl _) rfl
    | (exfalso; simp at h; omega)
    | (exfalso; simp_all; done)
theorem rwCheckY_s [Wd] (c : CoreD) (hc : dCore.ok c) (hs : tCore.sz c ≤ 1048576) (ho : coreOk c) : FnP Tryz.prog 14 [.agg (cCore c)] (.int .i64 0) := by
  have hw := (rCore_wr c hc).yes ho ([], false) rfl
  simp only [List.nil_append] at hw
  replace hw := hw.symm
  generalize coreB c = xs at *
  refine mkS 13 [] Tryz.func14 rfl (by kernel_rfl) ?_
  repeat'
    (conv => arg 2; whnf)
    first
    | refine okAsk (by kernel_rfl) ?_
    | refine okBoth ?_ ?_
    | refine okBrT ?_
    | refine okBrF ?_
    | refine okBr (fun h => ?_) (fun h => ?_)
    | refine okWeak 1 [.list 1 [], .bool false] rfl (Cos.cons (.nil _) (Cos.cons (.refl _) .nil)) rfl rfl ?_
    | refine okUr1 (w := ([], false)) (w' := (xs, false)) (rwCore_s c hc) hw (by show 0 + 262200 * tCore.sz c + 400000000 ≤ 140737488355328; exact Nat.not_lt.1 fun _ => by omega) ⟨⟨rfl, rfl⟩, trivial⟩ (Cos.refl _) rfl ?_
    | refine endFn0 (.inr rfl) rfl (.refl _) rfl
    | (exfalso; simp at h; omega)
    | (exfalso; simp_all; done)
theorem rwCheckN_s [Wd] (c : CoreD) (hc : dCore.ok c) (hs : tCore.sz c ≤ 1048576) (ho : ¬ coreOk c) : FnP Tryz.prog 14 [.agg (cCore c)] (.int .i64 200) := by
  obtain ⟨x, hw⟩ := core_badU hc ho
  refine mkS 13 [] Tryz.func14 rfl (by kernel_rfl) ?_
  repeat'
    (conv => arg 2; whnf)
    first
    | refine okAsk (by kernel_rfl) ?_
    | refine okBoth ?_ ?_
    | refine okBrT ?_
    | refine okBrF ?_
    | refine okBr (fun h => ?_) (fun h => ?_)
    | refine okWeak 1 [.list 1 [], .bool false] rfl (Cos.cons (.nil _) (Cos.cons (.refl _) .nil)) rfl rfl ?_
    | refine okUr1 (w := ([], false)) (w' := (x, true)) (rwCore_s c hc) hw (by show 0 + 262200 * tCore.sz c + 400000000 ≤ 140737488355328; exact Nat.not_lt.1 fun _ => by omega) ⟨⟨rfl, rfl⟩, trivial⟩ (Cos.refl _) rfl ?_
    | refine endFn0 (.inr rfl) rfl (.refl _) rfl
    | (exfalso; simp at h; omega)
    | (exfalso; simp_all; done)
end Go.Proofs.YteaggenihhaajaaGreat

/- bullalaw20.StateBytes: over data; over readings. -/
namespace Go.Proofs.YteaggenihhaajaaGreat
open Go.RowKit
set_option linter.unusedVariables false
set_option maxRecDepth 20000

abbrev planBytes : List (Nat × PlanT) := [(3, ⟨(.one 0 true (.one 1 false (.one 2 false (.one 4 false (.one 3 true (.one 5 true (.one 6 false (.one 7 false (.one 8 false (.one 9 false (.one 10 false (.one 11 true (.one 12 false (.one 13 false (.one 14 false (.one 15 false (.one 16 false (.one 17 false (.one 18 false .done))))))))))))))))))), []⟩)]
theorem bytesLaw_s [Wd] (c : CoreD) (hc : dCore.ok c) (hs : tCore.sz c ≤ 1048576) : FnP Tryz.prog 5 [.agg (cCore c)] (.bool true) := by
  by_cases ho : coreOk c
  · have f3 := stCheckY_s c hc hs ho
    have f4 := rwCheckY_s c hc hs ho
    by_cases hl : (coreB c).length ≤ 4194304
    · have f1 := stBytesY_s c hc hs ho hl
      have f2 := rwBytesY_s c hc hs ho hl
      obtain ⟨xs, hx⟩ : ∃ xs, xs = coreB c := ⟨_, rfl⟩
      rw [← hx] at f1 f2 hl
      clear hx
      have f5 := bEq_s xs xs hl hl
      rw [eqB_true rfl] at f5
      refine mkT 35 planBytes Tryz.func5 rfl (by kernel_rfl) ?_
      repeat'
        (conv => arg 2; whnf)
        first
        | refine okAsk (by kernel_rfl) ?_
        | refine okFn f1 rfl (Cos.refl _) ?_
        | refine okFn f2 rfl (Cos.refl _) ?_
        | refine okFn f3 rfl (Cos.refl _) ?_
        | refine okFn f4 rfl (Cos.refl _) ?_
        | refine okFn f5 rfl (Cos.refl _) ?_
        | refine okFn begun_s rfl (Cos.refl _) ?_
        | refine okBoth ?_ ?_
        | refine okBrT ?_
        | refine okBrF ?_
        | refine endBool (.inr rfl) rfl rfl
    · have f1 := stBytesL_s c hc hs ho (by omega)
      have f2 := rwBytesL_s c hc hs ho (by omega)
      have f5 := bEq_s [] [] (by decide) (by decide)
      rw [eqB_true rfl] at f5
      refine mkT 35 planBytes Tryz.func5 rfl (by kernel_rfl) ?_
      repeat'
        (conv => arg 2; whnf)
        first
        | refine okAsk (by kernel_rfl) ?_
        | refine okFn f1 rfl (Cos.refl _) ?_
        | refine okFn f2 rfl (Cos.refl _) ?_
        | refine okFn f3 rfl (Cos.refl _) ?_
        | refine okFn f4 rfl (Cos.refl _) ?_
        | refine okFn f5 rfl (Cos.cons (.nil _) (Cos.cons (.nil _) .nil)) ?_
        | refine okFn begun_s rfl (Cos.refl _) ?_
        | refine okBoth ?_ ?_
        | refine okBrT ?_
        | refine okBrF ?_
        | refine endBool (.inr rfl) rfl rfl
  · have f1 := stBytesN_s c hc hs ho
    have f2 := rwBytesN_s c hc hs ho
    have f3 := stCheckN_s c hc hs ho
    have f4 := rwCheckN_s c hc hs ho
    have f5 := bEq_s [] [] (by decide) (by decide)
    rw [eqB_true rfl] at f5
    refine mkT 35 planBytes Tryz.func5 rfl (by kernel_rfl) ?_
    repeat'
      (conv => arg 2; whnf)
      first
      | refine okAsk (by kernel_rfl) ?_
      | refine okFn f1 rfl (Cos.refl _) ?_
      | refine okFn f2 rfl (Cos.refl _) ?_
      | refine okFn f3 rfl (Cos.refl _) ?_
      | refine okFn f4 rfl (Cos.refl _) ?_
      | refine okFn f5 rfl (Cos.cons (.nil _) (Cos.cons (.nil _) .nil)) ?_
      | refine okFn begun_s rfl (Cos.refl _) ?_
      | refine okBoth ?_ ?_
      | refine okBrT ?_
      | refine okBrF ?_
      | refine endBool (.inr rfl) rfl rfl
theorem stBytesLaw_c {inn : Nat → Prop} {w : World} {cs : List Value} {a : CoreD} (h : tCore.rd inn w cs a) (sa : tCore.sz a ≤ 1048576) :
    Calls Tryz.prog 5 #[.agg cs.toArray] w fun e w' => e = .returned (.bool true) ∧ B w w' :=
  (bytesLaw_s a (LkCore.to h).2.1 sa).callsBool (LkCore.arg h) trivial
end Go.Proofs.YteaggenihhaajaaGreat
