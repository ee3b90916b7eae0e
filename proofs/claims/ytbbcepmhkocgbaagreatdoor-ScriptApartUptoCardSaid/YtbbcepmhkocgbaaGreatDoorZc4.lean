/- Lemmas and contracts, part 16.5. -/
import Derived.Test.YtbbcepmhkocgbaaGreatDoorZc3
import Derived.Deep.Light
import Derived.Lib.ConvBytes
import Derived.Deep.RegionHeld3
import Derived.Deep.RegionLaw
/- How long names, and the bytes of messages that may be, can get: plain. -/
namespace Go.Proofs.YtbbcepmhkocgbaaGreatDoor
open Go.RowKit Go.Deep
set_option linter.unusedVariables false

theorem width_le (s : ByteArray) (pos : Nat) : (Utf8.decode s pos).2 ≤ 4 := by
  simp only [Utf8.decode]
  repeat' split
  all_goals simp_all
  all_goals omega
theorem runesGo_len (s : ByteArray) : ∀ k pos n m, s.size ≤ pos + k → runesGo s k pos n = some m → n ≤ m ∧ s.size ≤ pos + 4 * (m - n)
  | 0, pos, n, m, hk, h => by
    simp only [runesGo] at h
    injection h with h
    omega
  | k + 1, pos, n, m, hk, h => by
    simp only [runesGo] at h
    split at h
    · rename_i hp
      split at h
      · cases h
      · have h1 := width_pos s pos hp
        have h4 := width_le s pos
        have := runesGo_len s k _ _ m (by omega) h
        omega
    · injection h with h
      omega
theorem nameF_len {s : List UInt8} (h : nameF s = true) : s.length ≤ 64 := by
  unfold nameF runesF at h
  simp only [decide_eq_true_eq] at h
  split at h
  · omega
  · rename_i n hn
    split at h
    · omega
    · have := runesGo_len (bstr s) _ 0 0 n (by rw [bstr_size]; omega) hn
      rw [bstr_size] at this
      omega
theorem nameE0 {s : List UInt8} (h : nameE s = 0) : s.length ≤ 64 := by
  unfold nameE at h
  split at h
  · rename_i hn; exact nameF_len hn
  · cases h
theorem opB_short {o : OpD} (h : opE o = 0) : (opB o).length ≤ 1000 := by
  have h0 := opE0 h
  unfold opE at h
  repeat' split at h
  all_goals try cases h
  rename_i g1 g2 g3 g4 g5
  have ek := encLe10 o.kind.toNat (by omega)
  have eo := encLe10 o.offset.toNat (by omega)
  have bl : ∀ b : List UInt8, b.length ≤ 64 → (byF b).length ≤ 74 := fun b hb => by
    unfold byF
    have := encLe10 b.length (by omega)
    rw [List.length_append]; omega
  unfold opB
  rw [List.length_append, List.length_append]
  have p1 : (if o.kind = 0 then [] else byF o.topic).length ≤ 74 := by
    split
    · simp
    · rename_i hk
      exact bl _ (nameF_len (by simpa [hk] using g2))
  have p2 : (if o.kind = 2 then enc o.records.length ++ o.records.flatMap byF else if o.kind = 3 then byF o.group ++ enc o.offset.toNat else if o.kind = 4 then enc o.offset.toNat else []).length ≤ 800 := by
    split
    · rename_i k2
      have hr : o.records.length ≤ 4 ∧ longF o = false := by
        simp only [not_and, not_or] at g4
        have := g4 k2
        exact ⟨by omega, by simpa using this.2.2⟩
      have e5 := encLe10 o.records.length (by omega)
      have e6 := flat_len (f := byF) (K := 74) o.records (fun x hx => bl x (by
        have := hr.2
        unfold longF at this
        rw [List.any_eq_false] at this
        have := this x hx
        simp at this
        omega))
      rw [List.length_append]
      have : o.records.length * 74 ≤ 4 * 74 := Nat.mul_le_mul_right _ hr.1
      omega
    · split
      · rename_i k3
        have := bl o.group (nameF_len (by simpa [k3] using g3))
        rw [List.length_append]; omega
      · split
        · omega
        · simp
  omega
theorem encI_l10 (n : Int) : (encI n).length ≤ 10 := by
  unfold encI
  exact encLe10 _ (by omega)
theorem numsB_len (l : List Int) : (numsB l).length ≤ 10 * l.length := by
  unfold numsB
  have := flat_len (f := encI) (K := 10) l (fun x _ => encI_l10 x)
  omega
theorem signB_len {s : SignD} (h : signE s = 0) : (signB s).length ≤ 20 := by
  have h' := signE0 h
  have e1 := encLe10 s.key.toNat (by omega)
  have e2 := encLe10 s.digest.toNat (by omega)
  unfold signB
  rw [List.length_append]; omega
theorem signP_l20 (s : SignD) : (signP s).length ≤ 20 := by
  unfold signP
  split
  · rename_i h; exact signB_len h
  · simp
theorem reqB_short {x : RequestD} (h : reqE x = 0) : (reqB x).length ≤ 1020 := by
  obtain ⟨c, t, o⟩ := reqE0 h
  have e1 := encLe10 x.client.toNat (by omega)
  have e2 := encLe10 x.time.toNat (by omega)
  have e3 := opB_short o
  unfold reqB
  simp only [List.length_append]; omega
theorem batchP_len (l : List SignedD) : (batchP l).length ≤ 4300 := by
  unfold batchP
  split
  · rename_i h
    have h' := batchE0 h
    unfold batchB
    have e := encLe10 l.length (by omega)
    have f := flat_len (f := signedB) (K := 1050) l (fun s hs => by
      obtain ⟨h1, h2⟩ := h'.2 s hs
      have a1 := reqB_short h1
      have a2 := signB_len h2
      have a3 := encLe10 (reqB s.request).length (by omega)
      unfold signedB byF
      simp only [List.length_append]; omega)
    rw [List.length_append]
    have : l.length * 1050 ≤ 4 * 1050 := Nat.mul_le_mul_right _ h'.1
    omega
  · simp
theorem manyE0 {n : Nat} {m : Int} (h : manyE n m = 0) : (n : Int) ≤ m := (rangeE0 h).2
theorem signsB_len {l : List SignD} (h : signsE l = 0) : (signsB l).length ≤ 270 := by
  have h1 := manyE0 (orE_zero.1 h).1
  unfold signsB
  have e := encI_l10 (l.length : Int)
  have f := flat_len (f := signP) (K := 20) l (fun s _ => signP_l20 s)
  rw [List.length_append]
  have : l.length * 20 ≤ 13 * 20 := Nat.mul_le_mul_right _ (by omega)
  omega
theorem certB_len {c : CertD} (h : certE c = 0) : (certB c).length ≤ 300 := by
  unfold certE at h
  have h1 := (orE_zero.1 (orE_zero.1 (orE_zero.1 h).2).2).2
  have e := numsB_len [c.seq, c.digest]
  have f := signsB_len h1
  simp at e
  unfold certB
  rw [List.length_append]; omega
theorem prepB_len {p : PreparedD} (h : prepE p = 0) : (prepB p).length ≤ 5000 := by
  unfold prepE at h
  simp only [orE_zero] at h
  have e := numsB_len [p.view, p.seq, p.digest]
  have f := signsB_len h.2.2.2.2.1
  have g := signP_l20 p.firstS
  have b := batchP_len p.batch
  simp at e
  unfold prepB
  simp only [List.length_append]; omega
theorem bodyC_len {c : ChangeD} (h : chgE c = 0) : (bodyC c).length ≤ 41000 := by
  unfold chgE at h
  simp only [orE_zero] at h
  obtain ⟨_, _, h3, h4, h5, _⟩ := h
  have n := manyE0 h4
  have e := numsB_len [c.view, c.src]
  have f := certB_len h3
  have g := encI_l10 (c.above.length : Int)
  have b := flat_len (f := prepB) (K := 5000) c.above (fun p hp => prepB_len (listE_zero.1 h5 p hp))
  have : c.above.length * 5000 ≤ 8 * 5000 := Nat.mul_le_mul_right _ (by omega)
  simp at e
  unfold bodyC
  simp only [List.length_append]; omega
theorem chgB_len {c : ChangeD} (h : chgE c = 0) : (chgB c).length ≤ 41100 := by
  have a := bodyC_len h
  have b := signP_l20 c.sign
  unfold chgB
  simp only [List.length_append]; omega
theorem entryB_len (x : EntryD) : (entryB x).length ≤ 4400 := by
  have e := numsB_len [x.view, x.seq]
  have a := batchP_len x.batch
  have b := signP_l20 x.sign
  simp at e
  unfold entryB
  simp only [List.length_append]; omega
theorem proofB_len {p : ProofD} (h : proofE p = 0) : (proofB p).length ≤ 5000 := by
  unfold proofE at h
  simp only [orE_zero] at h
  obtain ⟨h1, _, h3, h4, _, _, _, _, h9, _, h11⟩ := h
  have n1 := nameE0 h1
  have n3 := manyE0 h3
  have n4 := manyE0 h4
  have n9 := manyE0 h9
  have a1 := encLe10 p.topic.length (by omega)
  have a2 := encLe10 p.record.length (by omega)
  have e1 := numsB_len [p.offset]
  have e2 := numsB_len [p.index, p.count]
  have f1 := encI_l10 (p.headers.length : Int)
  have f2 := encI_l10 (p.path.length : Int)
  have c := certB_len h11
  have b1 := flat_len (f := headB) (K := 50) p.headers (fun x _ => by have := numsB_len [x.seq, x.prev, x.batch, x.root, x.state]; simp at this; unfold headB; omega)
  have b2 := flat_len (f := encI) (K := 10) p.path (fun x _ => encI_l10 x)
  have : p.headers.length * 50 ≤ 64 * 50 := Nat.mul_le_mul_right _ (by omega)
  have : p.path.length * 10 ≤ 8 * 10 := Nat.mul_le_mul_right _ (by omega)
  simp at e1 e2
  unfold proofB byF
  simp only [List.length_append]; omega
theorem unsB_len {m : MsgD} (h : kindE m = 0) : (unsB m).length ≤ 1000000 := by
  have hk := encI_l10 m.kind
  unfold unsB
  rw [List.length_append]
  suffices (tailB m).length ≤ 900000 by omega
  have ns : ∀ l : List Int, l.length ≤ 4 → (numsB l).length ≤ 40 := fun l hl => by have := numsB_len l; omega
  unfold kindE at h
  unfold tailB
  by_cases k1 : m.kind = 1
  · rw [if_pos k1]; have := batchP_len m.batch; omega
  rw [if_neg k1] at h ⊢
  by_cases k2 : m.kind = 2
  · rw [if_pos k2]; have := batchP_len m.batch; have := ns [m.src, m.view, m.seq, m.digest] (by simp); rw [List.length_append]; omega
  rw [if_neg k2] at h ⊢
  by_cases k3 : m.kind = 3 ∨ m.kind = 4
  · rw [if_pos k3]; have := ns [m.src, m.view, m.seq, m.digest] (by simp); omega
  rw [if_neg k3]
  rw [if_neg (fun e => k3 (.inl e)), if_neg (fun e => k3 (.inr e))] at h
  by_cases k5 : m.kind = 5
  · rw [if_pos k5] at h ⊢
    simp only [orE_zero] at h
    have r1 := rangeE0 h.2.2.2.2.1
    have r2 := rangeE0 h.2.2.2.2.2
    have a1 := encLe10 (max m.result.err 0).toNat (by omega)
    have a2 := encLe10 (max m.result.offset 0).toNat (by omega)
    have := ns [m.src, m.view, m.client, m.time] (by simp)
    unfold resultB
    simp only [List.length_append]; omega
  rw [if_neg k5] at h ⊢
  by_cases k6 : m.kind = 6
  · rw [if_pos k6]; have := ns [m.src, m.seq, m.digest] (by simp); omega
  rw [if_neg k6] at h ⊢
  by_cases k7 : m.kind = 7
  · rw [if_pos k7] at h ⊢
    split
    · rename_i c r hc
      have := listE_zero.1 (orE_zero.1 h).2 c (by rw [hc]; simp)
      unfold viewE at this
      have := bodyC_len (orE_zero.1 this).1
      omega
    · simp
  rw [if_neg k7] at h ⊢
  by_cases k8 : m.kind = 8
  · rw [if_pos k8] at h ⊢
    unfold newE at h
    simp only [orE_zero] at h
    obtain ⟨_, _, h3, h4, h5, _⟩ := h
    have n3 := manyE0 h3
    have n5 := manyE0 h5
    have f1 := encI_l10 (m.changes.length : Int)
    have f2 := encI_l10 (m.entries.length : Int)
    have b1 := flat_len (f := chgB) (K := 41100) m.changes (fun c hc => chgB_len (listE_zero.1 h4 c hc))
    have b2 := flat_len (f := entryB) (K := 4400) m.entries (fun c hc => entryB_len c)
    have : m.changes.length * 41100 ≤ 13 * 41100 := Nat.mul_le_mul_right _ (by omega)
    have : m.entries.length * 4400 ≤ 8 * 4400 := Nat.mul_le_mul_right _ (by omega)
    have := ns [m.src, m.view] (by simp)
    simp only [List.length_append]; omega
  rw [if_neg k8] at h ⊢
  by_cases k9 : m.kind = 9
  · rw [if_pos k9]; have := ns [m.src, m.seq] (by simp); omega
  rw [if_neg k9] at h ⊢
  by_cases k10 : m.kind = 10
  · rw [if_pos k10] at h ⊢
    simp only [orE_zero] at h
    have c := certB_len h.2.1
    have s := manyE0 h.2.2
    have a := encLe10 m.state.length (by omega)
    have := ns [m.src] (by simp)
    unfold byF
    simp only [List.length_append]; omega
  rw [if_neg k10] at h ⊢
  by_cases k11 : m.kind = 11
  · rw [if_pos k11] at h ⊢
    simp only [orE_zero] at h
    have s := nameE0 h.2.1
    have a := encLe10 m.topic.length (by omega)
    have := ns [m.client] (by simp)
    have := ns [m.offset] (by simp)
    unfold byF
    simp only [List.length_append]; omega
  rw [if_neg k11] at h ⊢
  by_cases k12 : m.kind = 12
  · rw [if_pos k12] at h ⊢
    have := proofB_len (orE_zero.1 h).2
    have := ns [m.src] (by simp)
    simp only [List.length_append]; omega
  rw [if_neg k12]
  simp
end Go.Proofs.YtbbcepmhkocgbaaGreatDoor

/- message.Unsigned over data, whole; and over readings. -/
namespace Go.Proofs.YtbbcepmhkocgbaaGreatDoor
open Go.RowKit
set_option linter.unusedVariables false
set_option maxRecDepth 20000

theorem someS_ok : dSign.ok someS := by
  simp [dSign, dM, dP, dI, someS]
theorem dMsg_ok (m : MsgD) : dMsg.ok m = (dI.ok m.kind ∧ dI.ok m.src ∧ dI.ok m.view ∧ dI.ok m.seq ∧ dI.ok m.digest ∧ dI.ok m.client ∧ dI.ok m.time ∧ dResult.ok m.result ∧ (dL dSigned).ok m.batch ∧ dCert.ok m.cert ∧ (dL dChange).ok m.changes ∧ (dL dEntry).ok m.entries ∧ dY.ok m.state ∧ dS.ok m.topic ∧ dI.ok m.offset ∧ dProof.ok m.proof ∧ dSign.ok m.sign) := rfl
theorem dChange_ok (c : ChangeD) : dChange.ok c = (dI.ok c.view ∧ dI.ok c.src ∧ dCert.ok c.cert ∧ (dL dPrepared).ok c.above ∧ dSign.ok c.sign) := rfl
theorem sign_ok {m : MsgD} (hm : dMsg.ok m) : dMsg.ok { m with sign := someS } := by
  rw [dMsg_ok] at hm ⊢
  obtain ⟨h1, h2, h3, h4, h5, h6, h7, h8, h9, h10, h11, h12, h13, h14, h15, h16, h17⟩ := hm
  exact ⟨h1, h2, h3, h4, h5, h6, h7, h8, h9, h10, h11, h12, h13, h14, h15, h16, someS_ok⟩
theorem chg_ok {m : MsgD} (hm : dMsg.ok m) {c : ChangeD} (hc : m.changes = [c]) : dMsg.ok { m with changes := [{ c with sign := someS }] } := by
  rw [dMsg_ok] at hm ⊢
  obtain ⟨h1, h2, h3, h4, h5, h6, h7, h8, h9, h10, h11, h12, h13, h14, h15, h16, h17⟩ := hm
  have h := h11.2 c (by rw [hc]; simp)
  rw [dChange_ok] at h
  obtain ⟨c1, c2, c3, c4, c5⟩ := h
  refine ⟨h1, h2, h3, h4, h5, h6, h7, h8, h9, h10, ⟨by simp, fun x hx => ?_⟩, h12, h13, h14, h15, h16, h17⟩
  simp only [List.mem_singleton] at hx
  subst hx
  rw [dChange_ok]
  exact ⟨c1, c2, c3, c4, someS_ok⟩
theorem unsigned7X_s (m : MsgD) (hm : dMsg.ok m) (hk : (m.kind == 7) = true) (hc : ((m.changes.length : Int) == 1) = false) (hs : signedK m.kind = false) (h0 : ¬ checkE m = 0) : FnP Tryz.prog 58 [.agg (cMsg m)] (.tup [.nils, .int .i64 (checkE m)]) := by
  refine mkS 51 [] Tryz.func58 rfl (by kernel_rfl) ?_
  repeat'
    (conv => arg 2; whnf)
    first
    | refine okAsk (by kernel_rfl) ?_
    | refine okBrT ?_
    | refine okBrF ?_
    | refine okBr (fun h => ?_) (fun h => ?_)
    | refine okFn some_s rfl (Cos.refl _) ?_
    | refine okFn (signed_s _) rfl (Cos.refl _) ?_
    | refine okFn (bytesNo_s m hm h0) rfl (Cos.refl _) ?_
    | refine endFn0 (.inr rfl) rfl (.refl _) rfl
    | (exfalso; simp_all; done)
/-- what message.Unsigned answers -/
noncomputable def uR (m : MsgD) : D := if bytesE (withS m) = 0 then .tup [.list 1 ((unsB m).map cByte), .int .i64 0] else .tup [.nils, .int .i64 (bytesE (withS m))]
theorem unsigned_s (m : MsgD) (hm : dMsg.ok m) : FnP Tryz.prog 58 [.agg (cMsg m)] (uR m) := by
  have hL : checkE (withS m) = 0 → kindE (withS m) = 0 ∧ (unsB m).length + 300 ≤ big := fun h => by
    have hk := msgE_kind (checkE_msg h)
    refine ⟨hk, ?_⟩
    have := unsB_len hk
    rw [unsB_withS] at this
    unfold big; omega
  have hU := unsB_withS m
  unfold uR bytesE
  cases h7 : m.kind == 7 with
  | false =>
    have k7 : ¬ m.kind = 7 := by simpa using h7
    cases hs : signedK m.kind with
    | true =>
      have ew : withS m = { m with sign := someS } := by unfold withS; rw [if_neg (fun h => k7 h.1), if_pos hs]
      have ef : fullB { m with sign := someS } = unsB { m with sign := someS } ++ signP someS := by
        unfold fullB
        simp only
        rw [if_neg k7, if_pos hs]
      have hw := sign_ok hm
      rw [ew] at hL hU
      rw [ew, ef]
      by_cases h0 : checkE { m with sign := someS } = 0
      · obtain ⟨hk0, hl⟩ := hL h0
        rw [← hU] at hl
        by_cases hb : 262144 < (unsB { m with sign := someS } ++ signP someS).length
        · rw [if_pos h0, if_pos hb, if_neg (by decide)]
          exact unsignedSL_s m hw h7 hs h0 hk0 hl hb
        · rw [if_pos h0, if_neg hb, if_pos rfl, ← hU]
          exact unsignedS_s m hw h7 hs h0 hk0 hl hb
      · rw [if_neg h0, if_neg h0]
        exact unsignedSNo_s m hw h7 hs h0
    | false =>
      have ew : withS m = m := by unfold withS; rw [if_neg (fun h => k7 h.1), if_neg (by rw [hs]; simp)]
      have ef : fullB m = unsB m := by
        unfold fullB
        rw [if_neg k7, if_neg (by rw [hs]; simp), List.append_nil]
      rw [ew] at hL
      rw [ew, ef]
      by_cases h0 : checkE m = 0
      · obtain ⟨hk0, hl⟩ := hL h0
        by_cases hb : 262144 < (unsB m).length
        · rw [if_pos h0, if_pos hb, if_neg (by decide)]
          exact unsignedFL_s m hm h7 hs h0 hk0 hl hb
        · rw [if_pos h0, if_neg hb, if_pos rfl]
          exact unsignedF_s m hm h7 hs h0 hk0 hl hb
      · rw [if_neg h0, if_neg h0]
        exact unsignedFNo_s m hm h7 hs h0
  | true =>
    have k7 : m.kind = 7 := by simpa using h7
    have hs : signedK m.kind = false := by rw [k7]; rfl
    by_cases hc : m.changes.length = 1
    · obtain ⟨c, hc⟩ := one_of hc
      have ew : withS m = { m with changes := [{ c with sign := someS }] } := by unfold withS; rw [if_pos ⟨k7, by rw [hc]; rfl⟩, hc]; rfl
      have ef : fullB { m with changes := [{ c with sign := someS }] } = unsB { m with changes := [{ c with sign := someS }] } ++ signP someS := by
        unfold fullB
        simp only
        rw [if_pos k7]
      have hw := chg_ok hm hc
      rw [ew] at hL hU
      rw [ew, ef]
      by_cases h0 : checkE { m with changes := [{ c with sign := someS }] } = 0
      · obtain ⟨hk0, hl⟩ := hL h0
        rw [← hU] at hl
        by_cases hb : 262144 < (unsB { m with changes := [{ c with sign := someS }] } ++ signP someS).length
        · rw [if_pos h0, if_pos hb, if_neg (by decide)]
          exact unsigned7L_s m c hw h7 hc h0 hk0 hl hb
        · rw [if_pos h0, if_neg hb, if_pos rfl, ← hU]
          exact unsigned7_s m c hw h7 hc h0 hk0 hl hb
      · rw [if_neg h0, if_neg h0]
        exact unsigned7No_s m c hw h7 hc h0
    · have ew : withS m = m := by unfold withS; rw [if_neg (fun h => hc h.2), if_neg (by rw [hs]; simp)]
      have h0 : ¬ checkE m = 0 := fun h => by
        have hk := msgE_kind (checkE_msg h)
        unfold kindE at hk
        simp only [k7] at hk
        have := rangeE0 (orE_zero.1 hk).1
        omega
      rw [ew, if_neg h0, if_neg h0]
      exact unsigned7X_s m hm h7 (by
        rw [beq_eq_false_iff_ne]
        omega) hs h0
/-- message.Unsigned over readings -/
theorem mUns_c {inn : Nat → Prop} {w : World} {cs : List Value} {x : MsgD} (hx : tMsg.rd inn w cs x) :
    Calls Tryz.prog 58 #[.agg cs.toArray] w fun r w' => ∃ v, r = .returned (.tuple #[v, .int .i64 (bytesE (withS x))]) ∧ B w w' ∧ (bytesE (withS x) = 0 → Bs w' v (unsB x)) := by
  refine ((unsigned_s x (LkMsg.to hx).2.1).calls (LkMsg.arg hx)).mono ?_
  rintro e w' ⟨v, I', rfl, hb, hv, _⟩
  unfold uR at hv
  by_cases h : bytesE (withS x) = 0
  · rw [if_pos h] at hv
    obtain ⟨vs, rfl, h2⟩ := hv.tup_inv
    obtain ⟨v1, vs, rfl, p1, h2⟩ := h2.uncons
    obtain ⟨v2, vs, rfl, p2, h2⟩ := h2.uncons
    obtain rfl := h2.nil_inv
    rw [p2.int_inv]
    refine ⟨v1, by rw [h], hb, fun _ => p1.list_inv.bs ?_⟩
    have hk := unsB_len (msgE_kind (checkE_msg (bytesE0.1 h).1))
    rw [unsB_withS] at hk
    unfold big; omega
  · rw [if_neg h] at hv
    obtain ⟨vs, rfl, h2⟩ := hv.tup_inv
    obtain ⟨v1, vs, rfl, p1, h2⟩ := h2.uncons
    obtain ⟨v2, vs, rfl, p2, h2⟩ := h2.uncons
    obtain rfl := h2.nil_inv
    rw [p2.int_inv, p1.nils_inv]
    exact ⟨_, rfl, hb, fun h1 => absurd h1 h⟩
end Go.Proofs.YtbbcepmhkocgbaaGreatDoor
