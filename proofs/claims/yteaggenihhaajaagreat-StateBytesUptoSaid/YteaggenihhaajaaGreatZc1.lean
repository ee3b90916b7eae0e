/- Lemmas and contracts, part Zg16.2. -/
import Derived.Test.YteaggenihhaajaaGreatZg16
import Derived.Deep.Light
import Derived.Lib.ConvBytes
import Derived.Deep.RegionHeld3
/- A core's bytes, in plain Lean: what a writer has (bytes; whether something may not be), as package state and as its reference write it. No program here. -/
namespace Go.Proofs.YteaggenihhaajaaGreat
open Go.RowKit
set_option linter.unusedVariables false

/-- a writer: its bytes; whether something may not be -/
abbrev WS := List UInt8 × Bool
/-- what a part of a writer does: where it may be, it puts just these bytes; where not, the writer is bad; bad it stays; so many bytes at most -/
structure Wr (F : WS → WS) (ok : Prop) (b : List UInt8) (k : Nat) : Prop where
  yes : ok → ∀ w : WS, w.2 = false → F w = (w.1 ++ b, false)
  no : ¬ ok → ∀ w : WS, (F w).2 = true
  keep : ∀ w : WS, w.2 = true → (F w).2 = true
  len : ∀ w : WS, (F w).1.length ≤ w.1.length + 262200 * k
theorem Wr.more {F : WS → WS} {ok : Prop} {b : List UInt8} {k k' : Nat} (h : Wr F ok b k) (hk : k ≤ k') : Wr F ok b k' :=
  ⟨h.yes, h.no, h.keep, fun w => Nat.le_trans (h.len w) (Nat.add_le_add_left (Nat.mul_le_mul_left _ hk) _)⟩
theorem Wr.comp {F G : WS → WS} {ok ok' : Prop} {b b' : List UInt8} {k k' : Nat} (h : Wr F ok b k) (g : Wr G ok' b' k') : Wr (fun w => G (F w)) (ok ∧ ok') (b ++ b') (k + k') where
  yes hh w hw := by
    show G (F w) = _
    rw [h.yes hh.1 w hw, g.yes hh.2 _ rfl, List.append_assoc]
  no hn w := by
    by_cases h1 : ok
    · exact g.no (fun h2 => hn ⟨h1, h2⟩) _
    · exact g.keep _ (h.no h1 w)
  keep w hw := g.keep _ (h.keep w hw)
  len w := by
    have h1 := h.len w
    have h2 := g.len (F w)
    have h3 : 262200 * (k + k') = 262200 * k + 262200 * k' := Nat.mul_add _ _ _
    show (G (F w)).1.length ≤ _
    omega
theorem Wr.iff {F : WS → WS} {ok ok' : Prop} {b : List UInt8} {k : Nat} (h : Wr F ok b k) (e : ok ↔ ok') : Wr F ok' b k := by
  cases propext e
  exact h
theorem Wr.id : Wr (fun w => w) True [] 0 := ⟨fun _ w hw => by cases w; simp at hw; subst hw; simp, fun h => absurd trivial h, fun w h => h, fun w => Nat.le_add_right _ _⟩
/-- the elements of a list -/
theorem Wr.fold {α : Type} {f : α → WS → WS} {ok : α → Prop} {b : α → List UInt8} {k : α → Nat} : ∀ (l : List α), (∀ x ∈ l, Wr (f x) (ok x) (b x) (k x)) → Wr (fun w => l.foldl (fun w x => f x w) w) (∀ x ∈ l, ok x) (l.flatMap b) (l.map k).sum
  | [], _ => Wr.id.iff ⟨fun _ x hx => (List.not_mem_nil hx).elim, fun _ => trivial⟩
  | x :: r, h => by
    have h1 := (h x (.head _)).comp (Wr.fold r fun y hy => h y (.tail _ hy))
    have := h1.iff (ok' := ∀ y ∈ x :: r, ok y) ⟨fun h y hy => by
      rcases List.mem_cons.1 hy with rfl | hy
      · exact h.1
      · exact h.2 y hy, fun h => ⟨h x (.head _), fun y hy => h y (.tail _ hy)⟩⟩
    simpa using this
/-- the same, where a bad writer stops -/
def skB (f : WS → WS) (w : WS) : WS := if w.2 then w else f w
theorem Wr.skip {F : WS → WS} {ok : Prop} {b : List UInt8} {k : Nat} (h : Wr F ok b k) : ∀ w : WS, w.2 = false → skB F w = F w := fun w hw => by unfold skB; rw [hw]; rfl
/-- as Wr, but of a writer that is bad nothing is asked: it is left as it is -/
structure Ws (F : WS → WS) (ok : Prop) (b : List UInt8) (k : Nat) : Prop where
  yes : ok → ∀ w : WS, w.2 = false → F w = (w.1 ++ b, false)
  no : ¬ ok → ∀ w : WS, w.2 = false → (F w).2 = true
  keep : ∀ w : WS, w.2 = true → (F w).2 = true
  len : ∀ w : WS, (F w).1.length ≤ w.1.length + 262200 * k
theorem Ws.wr {F : WS → WS} {ok : Prop} {b : List UInt8} {k : Nat} (h : Ws F ok b k) : Wr F ok b k :=
  ⟨h.yes, fun hn w => by cases hw : w.2 with
    | false => exact h.no hn w hw
    | true => exact h.keep w hw, h.keep, h.len⟩
theorem Wr.sk {F : WS → WS} {ok : Prop} {b : List UInt8} {k : Nat} (h : Wr F ok b k) : Wr (skB F) ok b k := by
  refine Ws.wr ⟨fun ho w hw => ?_, fun hn w hw => ?_, fun w hw => ?_, fun w => ?_⟩
  · rw [h.skip w hw]; exact h.yes ho w hw
  · rw [h.skip w hw]; exact h.no hn w
  · unfold skB; rw [if_pos hw]; exact hw
  · unfold skB
    split
    · exact Nat.le_add_right _ _
    · exact h.len w
/-! numbers, flags, byte strings -/
def nBad (n : Int) : Bool := decide (n < 0 ∨ 9007199254740992 < n)
theorem nBad_ok {n : Int} : nBad n = false ↔ nOk n := by unfold nBad nOk; simp
theorem nBad_no {n : Int} : nBad n = true ↔ ¬ nOk n := by rw [← nBad_ok]; simp
def wN (n : Int) (w : WS) : WS := if nBad n then (w.1, true) else (w.1 ++ encI n, w.2)
theorem wN_wr (n : Int) : Wr (wN n) (nOk n) (encI n) 1 := by
  refine ⟨fun h w hw => ?_, fun h w => ?_, fun w hw => ?_, fun w => ?_⟩ <;> unfold wN
  · rw [nBad_ok.2 h, hw]; rfl
  · rw [nBad_no.2 h]; rfl
  · split
    · rfl
    · exact hw
  · have := encI_l10 n
    split
    · show w.1.length ≤ _; omega
    · show (w.1 ++ encI n).length ≤ _; rw [List.length_append]; omega
/-- numbers, till one may not be -/
def wNs : List Int → WS → WS
  | [], w => w
  | n :: r, w => if nBad n then (w.1, true) else wNs r (w.1 ++ encI n, w.2)
theorem wNs_wr : ∀ (l : List Int), Wr (wNs l) (∀ n ∈ l, nOk n) (numsB l) l.length
  | [] => by
    have := Wr.id.iff (ok' := ∀ n ∈ ([] : List Int), nOk n) ⟨fun _ x hx => (List.not_mem_nil hx).elim, fun _ => trivial⟩
    exact this
  | n :: r => by
    have ih := wNs_wr r
    have e1 : numsB (n :: r) = encI n ++ numsB r := by simp [numsB]
    refine ⟨fun h w hw => ?_, fun h w => ?_, fun w hw => ?_, fun w => ?_⟩
    · unfold wNs
      rw [nBad_ok.2 (h n (.head _)), if_neg (by decide), ih.yes (fun x hx => h x (.tail _ hx)) (w.1 ++ encI n, w.2) hw, e1, List.append_assoc]
    · unfold wNs
      split
      · rfl
      · rename_i hb
        refine ih.no (fun hr => h ?_) _
        intro x hx
        rcases List.mem_cons.1 hx with rfl | hx
        · exact nBad_ok.1 (by simpa using hb)
        · exact hr x hx
    · unfold wNs
      split
      · rfl
      · exact ih.keep _ hw
    · unfold wNs
      have := encI_l10 n
      split
      · show w.1.length ≤ _; omega
      · have h1 := ih.len (w.1 ++ encI n, w.2)
        simp only [List.length_append, List.length_cons] at h1 ⊢
        omega
def flagI (b : Bool) : Int := if b then 1 else 0
def wF (b : Bool) : WS → WS := wN (flagI b)
theorem flagI_B (b : Bool) : encI (flagI b) = flagB b := by cases b <;> rfl
theorem wF_wr (b : Bool) : Wr (wF b) True (flagB b) 1 := by
  rw [← flagI_B]
  exact (wN_wr _).iff ⟨fun _ => trivial, fun _ => by cases b <;> exact ⟨by decide, by decide⟩⟩
def wB (b : List UInt8) (w : WS) : WS := (w.1 ++ byF b, w.2)
theorem wB_wr (b : List UInt8) (hb : b.length ≤ 4194304) : Wr (wB b) True (byF b) (b.length + 1) :=
  ⟨fun _ w hw => by unfold wB; rw [hw], fun h => absurd trivial h, fun w hw => hw, fun w => by
    have := byF_len b hb
    show (w.1 ++ byF b).length ≤ _
    rw [List.length_append]
    omega⟩
/-- what another layer made -/
def wM (p : List UInt8 × Int) (w : WS) : WS := (w.1 ++ byF p.1, w.2 || !decide (p.2 = 0))
theorem wM_wr (p : List UInt8 × Int) (hb : p.1.length ≤ 262144) : Wr (wM p) (p.2 = 0) (byF p.1) 1 := by
  have := byF_len p.1 (by omega)
  refine ⟨fun h w hw => ?_, fun h w => ?_, fun w hw => ?_, fun w => ?_⟩ <;> unfold wM
  · rw [hw, h]; rfl
  · simp [h]
  · rw [hw]; rfl
  · show (w.1 ++ byF p.1).length ≤ _; rw [List.length_append]; omega
def wSg (s : SignD) (w : WS) : WS := (w.1 ++ signP s, w.2 || !decide (signE s = 0))
theorem wSg_wr (s : SignD) : Wr (wSg s) (signE s = 0) (signP s) 1 := by
  have := signP_l20 s
  refine ⟨fun h w hw => ?_, fun h w => ?_, fun w hw => ?_, fun w => ?_⟩ <;> unfold wSg
  · rw [hw, h]; rfl
  · simp [h]
  · rw [hw]; rfl
  · show (w.1 ++ signP s).length ≤ _; rw [List.length_append]; omega
def wBt (l : List SignedD) (w : WS) : WS := (w.1 ++ batchP l, w.2 || !decide (batchE l = 0))
theorem wBt_wr (l : List SignedD) : Wr (wBt l) (batchE l = 0) (batchP l) 1 := by
  have hl := batchP_len l
  refine ⟨fun h w hw => ?_, fun h w => ?_, fun w hw => ?_, fun w => ?_⟩ <;> unfold wBt
  · rw [hw, h]; rfl
  · simp [h]
  · rw [hw]; rfl
  · show (w.1 ++ batchP l).length ≤ _; rw [List.length_append]; omega
/-! lists -/
def wL {α : Type} (f : α → WS → WS) (l : List α) (w : WS) : WS := if 4096 < l.length then (w.1, true) else l.foldl (fun w x => f x w) (wN (l.length : Int) w)
theorem wL_wr {α : Type} {f : α → WS → WS} {ok : α → Prop} {b : α → List UInt8} {k : α → Nat} (l : List α) (h : ∀ x ∈ l, Wr (f x) (ok x) (b x) (k x)) :
    Wr (wL f l) (putsOk ok l) (putsB b l) ((l.map k).sum + 1) := by
  have hc := (wN_wr (l.length : Int)).comp (Wr.fold l h)
  refine ⟨fun hk w hw => ?_, fun hn w => ?_, fun w hw => ?_, fun w => ?_⟩ <;> unfold wL
  · have hk1 : l.length ≤ 4096 := hk.1
    rw [if_neg (by omega)]
    exact hc.yes ⟨⟨by omega, by omega⟩, hk.2⟩ w hw
  · split
    · rfl
    · exact hc.no (fun hh => hn ⟨by omega, hh.2⟩) w
  · split
    · rfl
    · exact hc.keep w hw
  · split
    · exact Nat.le_add_right _ _
    · have := hc.len w
      rw [Nat.add_comm _ 1]
      exact this
/-- as the reference writes them: how many, bad where too many; then one by one, till the writer is bad -/
def rMy (n : Nat) (w : WS) : WS := wN (n : Int) (w.1, w.2 || decide (4096 < n))
def rL {α : Type} (f : α → WS → WS) (l : List α) (w : WS) : WS := l.foldl (fun w x => skB (f x) w) (rMy l.length w)
theorem rMy_wr (n : Nat) : Wr (rMy n) (n ≤ 4096) (encI (n : Int)) 1 := by
  refine ⟨fun h w hw => ?_, fun h w => ?_, fun w hw => ?_, fun w => (wN_wr _).len _⟩ <;> unfold rMy
  · have e : (w.2 || decide (4096 < n)) = false := by rw [hw]; simp; omega
    rw [e]
    exact (wN_wr _).yes ⟨by omega, by omega⟩ _ rfl
  · exact (wN_wr _).keep _ (by simp; omega)
  · exact (wN_wr _).keep _ (by simp [hw])
theorem rL_wr {α : Type} {f : α → WS → WS} {ok : α → Prop} {b : α → List UInt8} {k : α → Nat} (l : List α) (h : ∀ x ∈ l, Wr (f x) (ok x) (b x) (k x)) :
    Wr (rL f l) (putsOk ok l) (putsB b l) ((l.map k).sum + 1) := by
  have hc := (rMy_wr l.length).comp (Wr.fold (f := fun x => skB (f x)) l fun x hx => (h x hx).sk)
  rw [Nat.add_comm]
  exact hc
end Go.Proofs.YteaggenihhaajaaGreat

/- A core's bytes, in plain Lean: as package state writes them, and as its reference does: the same where they may be, and both bad where not. No program here. -/
namespace Go.Proofs.YteaggenihhaajaaGreat
open Go.RowKit
set_option linter.unusedVariables false

def hbE (h : HeaderD) : Int := if nBad h.seq || (nBad h.prev || (nBad h.batch || (nBad h.root || nBad h.state))) then 90 else 0
def mkHead (h : HeaderD) : List UInt8 × Int := if hbE h = 0 then (hdrB h, 0) else ([], hbE h)
def mkCert (c : CertD) : List UInt8 × Int := if certE c = 0 then (certB c, 0) else ([], certE c)
def mkChg (c : ChangeD) : List UInt8 × Int := if chgE c = 0 then (chgB c, 0) else ([], chgE c)
noncomputable def mkMsg (m : MsgD) : List UInt8 × Int := if bytesE m = 0 then (fullB m, 0) else ([], bytesE m)
theorem hbE_ok {h : HeaderD} : hbE h = 0 ↔ hdrOk h := by
  unfold hbE hdrOk
  simp only [← nBad_ok]
  cases nBad h.seq <;> cases nBad h.prev <;> cases nBad h.batch <;> cases nBad h.root <;> cases nBad h.state <;> simp
theorem mkHead_wr (h : HeaderD) : Wr (wM (mkHead h)) (hdrOk h) (byF (hdrB h)) 1 := by
  have hl := numsB_len [h.seq, h.prev, h.batch, h.root, h.state]
  simp only [List.length_cons, List.length_nil] at hl
  refine Wr.iff ?_ hbE_ok
  unfold mkHead
  by_cases h0 : hbE h = 0
  · rw [if_pos h0]
    refine (wM_wr (hdrB h, 0) ?_).iff ⟨fun _ => h0, fun _ => rfl⟩
    show (hdrB h).length ≤ _
    unfold hdrB
    rw [List.length_cons]; omega
  · rw [if_neg h0]
    have := wM_wr ([], hbE h) (by simp)
    exact ⟨fun e => absurd e h0, fun _ => this.no h0, this.keep, this.len⟩
theorem mkCert_wr (c : CertD) : Wr (wM (mkCert c)) (kCertOk c) (kCertB c) 1 := by
  refine Wr.iff (ok := certE c = 0) ?_ ⟨fun h => ⟨h, by have := certB_len h; omega⟩, fun h => h.1⟩
  unfold kCertB
  unfold mkCert
  by_cases h0 : certE c = 0
  · rw [if_pos h0]
    refine (wM_wr (certB c, 0) ?_).iff ⟨fun _ => h0, fun _ => rfl⟩
    have := certB_len h0
    show (certB c).length ≤ _; omega
  · rw [if_neg h0]
    have := wM_wr ([], certE c) (by simp)
    exact ⟨fun e => absurd e h0, fun _ => this.no h0, this.keep, this.len⟩
theorem mkChg_wr (c : ChangeD) : Wr (wM (mkChg c)) (kChgOk c) (kChgB c) 1 := by
  refine Wr.iff (ok := chgE c = 0) ?_ ⟨fun h => ⟨h, by have := chgB_len h; omega⟩, fun h => h.1⟩
  unfold kChgB mkChg
  by_cases h0 : chgE c = 0
  · rw [if_pos h0]
    refine (wM_wr (chgB c, 0) ?_).iff ⟨fun _ => h0, fun _ => rfl⟩
    have := chgB_len h0
    show (chgB c).length ≤ _; omega
  · rw [if_neg h0]
    have := wM_wr ([], chgE c) (by simp)
    exact ⟨fun e => absurd e h0, fun _ => this.no h0, this.keep, this.len⟩
theorem bytesE_ok {m : MsgD} : bytesE m = 0 ↔ kMsgOk m := by
  unfold bytesE kMsgOk
  by_cases h : checkE m = 0
  · rw [if_pos h]
    by_cases h2 : 262144 < (fullB m).length
    · rw [if_pos h2]
      exact ⟨fun e => (by cases e), fun e => absurd e.2 (by omega)⟩
    · rw [if_neg h2]
      exact ⟨fun _ => ⟨h, by omega⟩, fun _ => rfl⟩
  · rw [if_neg h]
    exact ⟨fun e => absurd e h, fun e => absurd e.1 h⟩
theorem mkMsg_wr (m : MsgD) : Wr (wM (mkMsg m)) (kMsgOk m) (kMsgB m) 1 := by
  refine Wr.iff ?_ bytesE_ok
  unfold kMsgB
  unfold mkMsg
  by_cases h0 : bytesE m = 0
  · rw [if_pos h0]
    refine (wM_wr (fullB m, 0) ?_).iff ⟨fun _ => h0, fun _ => rfl⟩
    show (fullB m).length ≤ _
    unfold bytesE at h0
    split at h0
    · split at h0
      · cases h0
      · omega
    · contradiction
  · rw [if_neg h0]
    have := wM_wr ([], bytesE m) (by simp)
    exact ⟨fun e => absurd e h0, fun _ => this.no h0, this.keep, this.len⟩
/-! as package state writes -/
def wPlaced (p : PlacedD) (w : WS) : WS := wB p.record (wNs [p.offset] (wB p.topic w))
def wBlock (x : BlockD) (w : WS) : WS := wL wPlaced x.placed (wBt x.batch (wM (mkHead x.header) w))
def wVote (v : VoteD) (w : WS) : WS := wSg v.sign (wNs [v.seq, v.digest] w)
def wMark (m : MarkD) (w : WS) : WS := wB m.topics (wM (mkHead m.header) w)
def wVoteOf (v : VoteOfD) (w : WS) : WS := wSg v.sign (wNs [v.digest] w)
def wMid (s : SlotD) (w : WS) : WS := if s.has then wBt s.batch (wSg s.firstS w) else if (s.firstS.key = 0 ∧ s.firstS.digest = 0) ∧ s.batch.length = 0 then w else (w.1, true)
def wSlot (s : SlotD) (w : WS) : WS := wL wVoteOf s.commits (wL wVoteOf s.prepares (wMid s (wNs [s.digest] (wF s.has (wNs [s.seq] w)))))
def wPrep (p : PreparedD) (w : WS) : WS := wBt p.batch (wL wSg p.signs (wSg p.firstS (wNs [p.view, p.seq, p.digest] w)))
def wCt (c : CertD) : WS → WS := wM (mkCert c)
def wCg (c : ChangeD) : WS → WS := wM (mkChg c)
noncomputable def wMs (m : MsgD) : WS → WS := wM (mkMsg m)
def wWait (s : SignedD) : WS → WS := wBt [s]
noncomputable def wCore (c : CoreD) (w : WS) : WS :=
  wNs [c.wants] (wL wMs c.news (wNs [c.timer.length, c.timer.left] (wL wWait c.pool.waiting (wL wCg c.changes (wL wPrep c.held (wL wSlot c.slots (wL wMark c.marks (wL wCt c.certs (wL wCt c.points.certs (wL wVote c.points.votes (wM (mkCert c.points.stable) (wB c.topics (wL wBlock c.blocks (wM (mkHead c.base) (wNs [c.ticks, c.floor] (wF c.active (wNs [c.view] w)))))))))))))))))
/-! as the reference writes -/
def rPlaced (p : PlacedD) (w : WS) : WS := wB p.record (wN p.offset (wB p.topic w))
def rBlock (x : BlockD) (w : WS) : WS := rL rPlaced x.placed (wBt x.batch (wM (mkHead x.header) w))
def rVote (v : VoteD) (w : WS) : WS := wSg v.sign (wN v.digest (wN v.seq w))
def rVoteOf (v : VoteOfD) (w : WS) : WS := wSg v.sign (wN v.digest w)
def rSlot (s : SlotD) (w : WS) : WS := rL rVoteOf s.commits (rL rVoteOf s.prepares (wMid s (wN s.digest (wF s.has (wN s.seq w)))))
def rPrep (p : PreparedD) (w : WS) : WS := wBt p.batch (rL wSg p.signs (wSg p.firstS (wN p.digest (wN p.seq (wN p.view w)))))
noncomputable def rCore (c : CoreD) (w : WS) : WS :=
  wN c.wants (rL wMs c.news (wN c.timer.left (wN c.timer.length (rL wWait c.pool.waiting (rL wCg c.changes (rL rPrep c.held (rL rSlot c.slots (rL wMark c.marks (rL wCt c.certs (rL wCt c.points.certs (rL rVote c.points.votes (wM (mkCert c.points.stable) (wB c.topics (rL rBlock c.blocks (wM (mkHead c.base) (wN c.floor (wN c.ticks (wF c.active (wN c.view w)))))))))))))))))))
/-! they do so -/
theorem Wr.as {F F' : WS → WS} {ok ok' : Prop} {b b' : List UInt8} {k k' : Nat} (h : Wr F ok b k) (e1 : F' = F) (e2 : ok ↔ ok') (e3 : b = b') (hk : k ≤ k') : Wr F' ok' b' k' := by
  subst e1 e3
  exact (h.iff e2).more hk
theorem wNs1 (a : Int) : Wr (wNs [a]) (nOk a) (numsB [a]) 1 := (wNs_wr [a]).iff (by simp)
theorem wNs2 (a b : Int) : Wr (wNs [a, b]) (nOk a ∧ nOk b) (numsB [a, b]) 2 := (wNs_wr [a, b]).iff (by simp)
theorem wNs3 (a b c : Int) : Wr (wNs [a, b, c]) (nOk a ∧ nOk b ∧ nOk c) (numsB [a, b, c]) 3 := (wNs_wr [a, b, c]).iff (by simp)
theorem wN2 (a b : Int) : Wr (fun w => wN b (wN a w)) (nOk a ∧ nOk b) (numsB [a, b]) 2 := ((wN_wr a).comp (wN_wr b)).as rfl Iff.rfl (by simp [numsB]) (Nat.le_refl _)
theorem wN3 (a b c : Int) : Wr (fun w => wN c (wN b (wN a w))) (nOk a ∧ nOk b ∧ nOk c) (numsB [a, b, c]) 3 := (((wN_wr a).comp (wN_wr b)).comp (wN_wr c)).as rfl and_assoc (by simp [numsB]) (Nat.le_refl _)
theorem szM {α β : Type} (T : Ty α) (f : β → α) (b : β) : (tM T f).sz b = T.sz (f b) + 1 := rfl
theorem szP {α β : Type} (T : Ty α) (U : Ty β) (p : α × β) : (tP T U).sz p = T.sz p.1 + U.sz p.2 := rfl
theorem szL {α : Type} (T : Ty α) (l : List α) : (tL T).sz l = (l.map T.sz).sum + 1 := rfl
theorem szI (a : Int) : tI.sz a = 1 := rfl
theorem szB (a : Bool) : tB.sz a = 1 := rfl
theorem szS (a : List UInt8) : tS.sz a = a.length + 1 := rfl
theorem szY (a : List UInt8) : tY.sz a = a.length + 1 := rfl
theorem placed_wr (p : PlacedD) (h : dPlaced.ok p) : Wr (wPlaced p) (placedOk p) (placedB p) (tPlaced.sz p) :=
  (((wB_wr p.topic h.1).comp (wNs1 p.offset)).comp (wB_wr p.record h.2.2)).as rfl (by simp [placedOk]) rfl (by
    unfold tPlaced; simp only [szM, szP, szI, szS, szY]; omega)
theorem rPlaced_wr (p : PlacedD) (h : dPlaced.ok p) : Wr (rPlaced p) (placedOk p) (placedB p) (tPlaced.sz p) := placed_wr p h
theorem mkHead_sz (h : HeaderD) : 1 ≤ tHeader.sz h := by unfold tHeader; rw [szM]; omega
theorem mkCert_sz (h : CertD) : 1 ≤ tCert.sz h := by unfold tCert; rw [szM]; omega
theorem mkChg_sz (h : ChangeD) : 1 ≤ tChange.sz h := by unfold tChange; rw [szM]; omega
theorem mkMsg_sz (h : MsgD) : 1 ≤ tMsg.sz h := by unfold tMsg; rw [szM]; omega
theorem sign_sz (h : SignD) : 1 ≤ tSign.sz h := by unfold tSign; rw [szM]; omega
theorem signed_sz (h : SignedD) : 1 ≤ tSigned.sz h := by unfold tSigned; rw [szM]; omega
theorem block_wr (x : BlockD) (h : dBlock.ok x) : Wr (wBlock x) (blockOk x) (blockB x) (tBlock.sz x) :=
  (((mkHead_wr x.header).comp (wBt_wr x.batch)).comp (wL_wr x.placed fun p hp => placed_wr p (h.2.2.2 p hp))).as rfl and_assoc rfl (by
    have := mkHead_sz x.header
    unfold tBlock; simp only [szM, szP, szL]; omega)
theorem rBlock_wr (x : BlockD) (h : dBlock.ok x) : Wr (rBlock x) (blockOk x) (blockB x) (tBlock.sz x) :=
  (((mkHead_wr x.header).comp (wBt_wr x.batch)).comp (rL_wr x.placed fun p hp => rPlaced_wr p (h.2.2.2 p hp))).as rfl and_assoc rfl (by
    have := mkHead_sz x.header
    unfold tBlock; simp only [szM, szP, szL]; omega)
theorem vote_wr (v : VoteD) : Wr (wVote v) (kVoteOk v) (kVoteB v) (tVote.sz v) :=
  ((wNs2 v.seq v.digest).comp (wSg_wr v.sign)).as rfl and_assoc rfl (by
    have := sign_sz v.sign
    unfold tVote; simp only [szM, szP, szI]; omega)
theorem rVote_wr (v : VoteD) : Wr (rVote v) (kVoteOk v) (kVoteB v) (tVote.sz v) :=
  ((wN2 v.seq v.digest).comp (wSg_wr v.sign)).as rfl and_assoc rfl (by
    have := sign_sz v.sign
    unfold tVote; simp only [szM, szP, szI]; omega)
theorem mark_wr (m : MarkD) (h : dMark.ok m) : Wr (wMark m) (markOk m) (markB m) (tMark.sz m) :=
  ((mkHead_wr m.header).comp (wB_wr m.topics h.2)).as rfl (by simp [markOk]) rfl (by
    have := mkHead_sz m.header
    unfold tMark; simp only [szM, szP, szY]; omega)
theorem voteOf_wr (v : VoteOfD) : Wr (wVoteOf v) (voteOfOk v) (voteOfB v) (tVoteOf.sz v) :=
  ((wNs1 v.digest).comp (wSg_wr v.sign)).as rfl Iff.rfl rfl (by
    have := sign_sz v.sign
    unfold tVoteOf; simp only [szM, szP, szI]; omega)
theorem rVoteOf_wr (v : VoteOfD) : Wr (rVoteOf v) (voteOfOk v) (voteOfB v) (tVoteOf.sz v) := voteOf_wr v
def midOk (s : SlotD) : Prop := (s.has = true → signE s.firstS = 0 ∧ batchE s.batch = 0) ∧ (s.has = false → s.firstS = zSign ∧ s.batch = [])
def midB (s : SlotD) : List UInt8 := if s.has then signP s.firstS ++ batchP s.batch else []
theorem mid_wr (s : SlotD) : Wr (wMid s) (midOk s) (midB s) 2 := by
  cases hh : s.has with
  | true =>
    refine ((wSg_wr s.firstS).comp (wBt_wr s.batch)).as (by funext w; unfold wMid; rw [hh]; rfl) ?_ (by unfold midB; rw [hh]; rfl) (Nat.le_refl _)
    unfold midOk
    rw [hh]
    exact ⟨fun h => ⟨fun _ => h, fun e => by cases e⟩, fun h => h.1 rfl⟩
  | false =>
    have ez : s.firstS = zSign ↔ (s.firstS.key = 0 ∧ s.firstS.digest = 0) := by
      cases s.firstS
      simp [zSign]
    have e : midOk s ↔ ((s.firstS.key = 0 ∧ s.firstS.digest = 0) ∧ s.batch.length = 0) := by
      unfold midOk
      rw [hh, ← ez]
      exact ⟨fun h => ⟨(h.2 rfl).1, by rw [(h.2 rfl).2]; rfl⟩, fun h => ⟨fun e => by (cases e), fun _ => ⟨h.1, List.eq_nil_of_length_eq_zero h.2⟩⟩⟩
    have eb : midB s = [] := by unfold midB; rw [hh]; rfl
    rw [eb]
    refine Wr.iff ?_ e.symm
    refine ⟨fun h w hw => ?_, fun h w => ?_, fun w hw => ?_, fun w => ?_⟩ <;> unfold wMid <;> rw [hh, if_neg (by decide)]
    · rw [if_pos h, List.append_nil, ← hw]
    · rw [if_neg h]
    · split
      · exact hw
      · rfl
    · split
      · exact Nat.le_add_right _ _
      · exact Nat.le_add_right _ _
theorem slot_wr (s : SlotD) : Wr (wSlot s) (slotOk s) (slotB s) (tSlot.sz s) :=
  ((((((wNs1 s.seq).comp (wF_wr s.has)).comp (wNs1 s.digest)).comp (mid_wr s)).comp (wL_wr s.prepares fun v _ => voteOf_wr v)).comp (wL_wr s.commits fun v _ => voteOf_wr v)).as rfl (by unfold slotOk midOk; simp only [and_true, and_assoc]) rfl (by
    have := sign_sz s.firstS
    unfold tSlot; simp only [szM, szP, szI, szB, szL]; omega)
theorem rSlot_wr (s : SlotD) : Wr (rSlot s) (slotOk s) (slotB s) (tSlot.sz s) :=
  ((((((wNs1 s.seq).comp (wF_wr s.has)).comp (wNs1 s.digest)).comp (mid_wr s)).comp (rL_wr s.prepares fun v _ => rVoteOf_wr v)).comp (rL_wr s.commits fun v _ => rVoteOf_wr v)).as rfl (by unfold slotOk midOk; simp only [and_true, and_assoc]) rfl (by
    have := sign_sz s.firstS
    unfold tSlot; simp only [szM, szP, szI, szB, szL]; omega)
theorem sPrep_wr (p : PreparedD) : Wr (wPrep p) (kPrepOk p) (kPrepB p) (tPrepared.sz p) :=
  ((((wNs3 p.view p.seq p.digest).comp (wSg_wr p.firstS)).comp (wL_wr p.signs fun s _ => (wSg_wr s).more (sign_sz s))).comp (wBt_wr p.batch)).as rfl (by unfold kPrepOk; simp only [and_assoc]) rfl (by
    have := sign_sz p.firstS
    unfold tPrepared; simp only [szM, szP, szI, szL]; omega)
theorem rPrep_wr (p : PreparedD) : Wr (rPrep p) (kPrepOk p) (kPrepB p) (tPrepared.sz p) :=
  ((((wN3 p.view p.seq p.digest).comp (wSg_wr p.firstS)).comp (rL_wr p.signs fun s _ => (wSg_wr s).more (sign_sz s))).comp (wBt_wr p.batch)).as rfl (by unfold kPrepOk; simp only [and_assoc]) rfl (by
    have := sign_sz p.firstS
    unfold tPrepared; simp only [szM, szP, szI, szL]; omega)
set_option maxRecDepth 20000 in
theorem wCore_wr (c : CoreD) (h : dCore.ok c) : Wr (wCore c) (coreOk c) (coreB c) (tCore.sz c) :=
  ((((((((((((((((((wNs1 c.view).comp
    (wF_wr c.active)).comp
    (wNs2 c.ticks c.floor)).comp
    (mkHead_wr c.base)).comp
    (wL_wr c.blocks fun x hx => block_wr x (h.2.2.2.2.2.1.2 x hx))).comp
    (wB_wr c.topics h.2.2.2.2.2.2.1)).comp
    (mkCert_wr c.points.stable)).comp
    (wL_wr c.points.votes fun x _ => vote_wr x)).comp
    (wL_wr c.points.certs fun x _ => (mkCert_wr x).more (mkCert_sz x))).comp
    (wL_wr c.certs fun x _ => (mkCert_wr x).more (mkCert_sz x))).comp
    (wL_wr c.marks fun x hx => mark_wr x (h.2.2.2.2.2.2.2.2.2.1.2 x hx))).comp
    (wL_wr c.slots fun x _ => slot_wr x)).comp
    (wL_wr c.held fun x _ => sPrep_wr x)).comp
    (wL_wr c.changes fun x _ => (mkChg_wr x).more (mkChg_sz x))).comp
    (wL_wr c.pool.waiting fun x _ => (wBt_wr [x]).more (signed_sz x))).comp
    (wNs2 c.timer.length c.timer.left)).comp
    (wL_wr c.news fun x _ => (mkMsg_wr x).more (mkMsg_sz x))).comp
    (wNs1 c.wants)).as rfl (by simp only [coreOk, and_true, and_assoc]; exact Iff.rfl) rfl (by
    have h1 := mkHead_sz c.base
    have h2 := mkCert_sz c.points.stable
    unfold tCore tPoints tPool tTimer; simp only [szM, szP, szI, szB, szY, szL]; omega)
set_option maxRecDepth 20000 in
theorem rCore_wr (c : CoreD) (h : dCore.ok c) : Wr (rCore c) (coreOk c) (coreB c) (tCore.sz c) :=
  ((((((((((((((((((wNs1 c.view).comp
    (wF_wr c.active)).comp
    (wN2 c.ticks c.floor)).comp
    (mkHead_wr c.base)).comp
    (rL_wr c.blocks fun x hx => rBlock_wr x (h.2.2.2.2.2.1.2 x hx))).comp
    (wB_wr c.topics h.2.2.2.2.2.2.1)).comp
    (mkCert_wr c.points.stable)).comp
    (rL_wr c.points.votes fun x _ => rVote_wr x)).comp
    (rL_wr c.points.certs fun x _ => (mkCert_wr x).more (mkCert_sz x))).comp
    (rL_wr c.certs fun x _ => (mkCert_wr x).more (mkCert_sz x))).comp
    (rL_wr c.marks fun x hx => mark_wr x (h.2.2.2.2.2.2.2.2.2.1.2 x hx))).comp
    (rL_wr c.slots fun x _ => rSlot_wr x)).comp
    (rL_wr c.held fun x _ => rPrep_wr x)).comp
    (rL_wr c.changes fun x _ => (mkChg_wr x).more (mkChg_sz x))).comp
    (rL_wr c.pool.waiting fun x _ => (wBt_wr [x]).more (signed_sz x))).comp
    (wN2 c.timer.length c.timer.left)).comp
    (rL_wr c.news fun x _ => (mkMsg_wr x).more (mkMsg_sz x))).comp
    (wNs1 c.wants)).as rfl (by simp only [coreOk, and_true, and_assoc]; exact Iff.rfl) rfl (by
    have h1 := mkHead_sz c.base
    have h2 := mkCert_sz c.points.stable
    unfold tCore tPoints tPool tTimer; simp only [szM, szP, szI, szB, szY, szL]; omega)
end Go.Proofs.YteaggenihhaajaaGreat

/- A nil slice in an object of one's own, taken for an empty list ahead of a call. No program here. -/
namespace Go.Proofs.YteaggenihhaajaaGreat
open Go.RowKit
set_option linter.unusedVariables false

section
variable {P : Program} {Q : Exit → S → Prop} {I : Nat → Prop} {g : Ghost} {w : World} {h : List AO} {o : Nat} {t : TypeId} {cs ds : List D}
theorem weak_get (ho : h[o]? = some (.cells t cs)) {o' : Nat} {ao : AO} (e : (h.set o (.cells t ds))[o']? = some ao) : ∃ a, h[o']? = some a ∧ ∀ p b, ao.owns p b ↔ a.owns p b := by
  rw [List.getElem?_set] at e
  split at e
  · rename_i hoo
    subst hoo
    split at e
    · injection e with e
      subst e
      exact ⟨_, ho, fun p b => Iff.rfl⟩
    · cases e
  · exact ⟨ao, e, fun p b => Iff.rfl⟩
theorem weak_get' (ho : h[o]? = some (.cells t cs)) {o' : Nat} {a : AO} (e : h[o']? = some a) : ∃ ao, (h.set o (.cells t ds))[o']? = some ao ∧ ∀ p b, ao.owns p b ↔ a.owns p b := by
  by_cases hoo : o = o'
  · subst hoo
    have hl := (List.getElem?_eq_some_iff.1 ho).1
    rw [ho] at e
    injection e with e
    subst e
    exact ⟨.cells t ds, by rw [List.getElem?_set, if_pos rfl, if_pos hl], fun p b => Iff.rfl⟩
  · exact ⟨a, by rw [List.getElem?_set, if_neg hoo]; exact e, fun p b => Iff.rfl⟩
theorem weak_in (ho : h[o]? = some (.cells t cs)) (M : List Nat) : OwnedIn M g (h.set o (.cells t ds)) = OwnedIn M g h := by
  funext b
  refine propext ⟨fun ⟨o', ao, p, h1, h2, h3, h4⟩ => ?_, fun ⟨o', ao, p, h1, h2, h3, h4⟩ => ?_⟩
  · obtain ⟨a, k1, k2⟩ := weak_get ho h2
    exact ⟨o', a, p, h1, k1, h3, (k2 p b).1 h4⟩
  · obtain ⟨a, k1, k2⟩ := weak_get' (ds := ds) ho h2
    exact ⟨o', a, p, h1, k1, h3, (k2 p b).2 h4⟩
theorem Den.weak (hd : Den I g w h) (ho : h[o]? = some (.cells t cs)) (hc : Cos cs ds) : Den I g w (h.set o (.cells t ds)) where
  len := by rw [List.length_set]; exact hd.len
  inn := hd.inn
  obj o' ao p e hp := by
    rw [List.getElem?_set] at e
    split at e
    · rename_i hoo
      subst hoo
      split at e
      · injection e with e
        subst e
        obtain ⟨b, vs, h1, h2, h3, h4⟩ := hd.obj o _ p ho hp
        exact ⟨b, vs, h1, h2, hc.ok h3, h4⟩
      · cases e
    · exact hd.obj o' ao p e hp
  own o' ao p b e hp hb := by
    obtain ⟨a, k1, k2⟩ := weak_get ho e
    exact hd.own o' a p b k1 hp ((k2 p b).1 hb)
  sep o1 o2 a1 a2 p1 p2 b e1 e2 q1 q2 b1 b2 := by
    obtain ⟨a, k1, k2⟩ := weak_get ho e1
    obtain ⟨a', k3, k4⟩ := weak_get ho e2
    exact hd.sep o1 o2 a a' p1 p2 b k1 k3 q1 q2 ((k2 p1 b).1 b1) ((k4 p2 b).1 b2)
theorem Af.weak {M : List Nat} {I' : Nat → Prop} {g' : Ghost} {w' : World} {h' : List AO} (ho : h[o]? = some (.cells t cs)) (hm : o ∈ M) (k : Af I g w (h.set o (.cells t ds)) M I' g' w' h') : Af I g w h M I' g' w' h' where
  den := k.den
  ext := by have := k.ext; rwa [weak_in ho] at this
  i1 := k.i1
  i2 b hb := by have := k.i2 b hb; rwa [weak_in ho] at this
  gx := k.gx
  fr o' hl hn := by
    have := k.fr o' (by rw [List.length_set]; exact hl) hn
    rwa [List.getElem?_set, if_neg (fun e => hn (by rw [← e]; exact hm))] at this
  al o' ao' p b hl h1 h2 h3 := by
    obtain ⟨a, k1, k2⟩ := k.al o' ao' p b (by rw [List.length_set]; exact hl) h1 h2 h3
    obtain ⟨a', k3, k4⟩ := weak_get ho k1
    exact ⟨a', k3, (k4 p b).1 k2⟩
  nw o' ao' p b hl h1 h2 h3 := by
    have := k.nw o' ao' p b (by rw [List.length_set]; exact hl) h1 h2 h3
    rwa [weak_in ho] at this
/-- ahead of a call, an object that it may change is weakened -/
theorem okWeak [Wd] {f : FuncId} {az : List D} {c : D → List AO → T} (o : Nat) {t : TypeId} {cs : List D} (ds : List D) (ho : h[o]? = some (.cells t cs)) (hc : Cos cs ds) (hm : (foot h az).elem o = true) (hf : foot (h.set o (.cells t ds)) az = foot h az) (k : (T.call f az (h.set o (.cells t ds)) c).ok P Q) : (T.call f az h c).ok P Q := by
  obtain ⟨Post, ⟨h1, h2⟩, h3⟩ := k
  rw [hf] at h2
  refine ⟨Post, ⟨h1, fun w I g vs hW hd ha => ?_⟩, h3⟩
  refine (h2 w I g vs hW (hd.weak ho hc) ha).mono fun e w' hR => ?_
  obtain ⟨v, I', g', r, h', r1, r2, r3, r4⟩ := hR
  exact ⟨v, I', g', r, h', r1, r2, r3.weak ho (by simpa using hm), r4⟩
end
end Go.Proofs.YteaggenihhaajaaGreat

/- What yields new bytes, as data; the writer of package message: numbers, byte strings, signatures, batches. -/
namespace Go.Proofs.YteaggenihhaajaaGreat
open Go.RowKit
set_option linter.unusedVariables false
set_option maxRecDepth 20000

theorem fresh_s [Wd] {P : Program} {f : FuncId} {ar : List D} {bs : List UInt8} (hl : bs.length ≤ big) (hcal : calleeOk P f = true) (h : ∀ w I vs, Drs I w vs ar → Calls P f vs.toArray w (Fresh w bs)) (hp : pureD.pl ar = true) : FnP P f ar (.list 1 (bs.map cByte)) := by
  refine ⟨hcal, fun w I g vs _ hd ha => (h w I vs (pureL_ok ha hp)).mono ?_⟩
  rintro e w' ⟨v, rfl, hr, hb⟩
  have hg : g = [] := List.eq_nil_of_length_eq_zero hd.len
  subst hg
  have hn : ∀ b, ¬ Owned [] [] b := fun b ⟨o, ao, p, h, _⟩ => by simp at h
  refine ⟨v, fun b => I b ∨ (w.heap.size ≤ b ∧ b < w'.heap.size), [], _, [], rfl, ⟨rfl, rfl⟩, (hd.later hb).inns (fun _ h => .inl h) (fun b hb' => ?_) (fun b _ => hn b), .rd ((Bs.of_own hr hl).dr (fun g hg _ => .inr ⟨row_ge hr hg, row_lt hr hg⟩)), Ext.of_B hb, fun _ h => .inl h, fun b hb' => ?_, fun b h => .inl h, fun o p t cs _ h => by simp at h⟩
  · rcases hb' with k | k
    · have := hd.inn b k
      have := hb.size
      omega
    · exact k.2
  · rcases hb' with k | k
    · exact .inl k
    · exact .inr (.inr k.1)
theorem Drs.two_inv {I : Nat → Prop} {w : World} {cs : List Value} {d e : D} (h : Drs I w cs [d, e]) : ∃ v u, cs = [v, u] ∧ Dr I w v d ∧ Dr I w u e := by
  obtain ⟨hl, h⟩ := h
  match cs, hl with
  | [v, u], _ => exact ⟨v, u, rfl, h 0 v d rfl rfl, h 1 u e rfl rfl⟩
theorem u64_range (n : Int) : 0 ≤ IntKind.u64.wrap n ∧ IntKind.u64.wrap n < 18446744073709551616 := by
  simp only [IntKind.wrap, IntKind.signed, IntKind.bits]
  simp
  omega
theorem u64_enc (n : Int) : enc (IntKind.u64.wrap n).toNat = encI n := by
  unfold encI
  congr 2
theorem putNum_s [Wd] (bs : List UInt8) (n : Int) (hl : bs.length + 100 ≤ big) : FnP Tryz.prog 151 [.list 1 (bs.map cByte), .int .u64 (IntKind.u64.wrap n)] (.list 1 ((bs ++ encI n).map cByte)) :=
  fresh_s (by have := enc_10 (show (n % 18446744073709551616).toNat < 18446744073709551616 by omega); unfold encI; rw [List.length_append]; omega) (by kernel_rfl) (fun w I vs hv => by
    obtain ⟨v, u, rfl, h1, h2⟩ := hv.two_inv
    cases h2
    rw [← u64_enc]
    exact putN_c (h1.bs (by omega)) _ (u64_range n) (by omega)) rfl
theorem putBytes_s [Wd] (bs xs : List UInt8) (hx : xs.length ≤ 4194304) (hl : (bs ++ xs).length + 100 ≤ big) : FnP Tryz.prog 157 [.list 1 (bs.map cByte), .list 1 (xs.map cByte)] (.list 1 ((bs ++ byF xs).map cByte)) :=
  fresh_s (by have := enc_10 (show xs.length < 18446744073709551616 by omega); unfold byF; simp at hl ⊢; omega) (by kernel_rfl) (fun w I vs hv => by
    obtain ⟨v, u, rfl, h1, h2⟩ := hv.two_inv
    rw [← byF_eq]
    exact putBytes72 (h1.bs (by simp at hl; omega)) (h2.bs (by simp at hl; omega)) (by omega)) rfl
theorem signP_l (s : SignD) : (signP s).length ≤ 20 := by
  unfold signP
  split
  · rename_i h
    obtain ⟨h1, h2⟩ := signE0 h
    have e1 := enc_10 (show s.key.toNat < 18446744073709551616 by omega)
    have e2 := enc_10 (show s.digest.toNat < 18446744073709551616 by omega)
    unfold signB
    rw [List.length_append]
    omega
  · simp
theorem putSign_s [Wd] (bs : List UInt8) (x : SignD) (hl : bs.length + 100 ≤ big) : FnP Tryz.prog 222 [.list 1 (bs.map cByte), .agg (cSign x)] (.list 1 ((bs ++ signP x).map cByte)) :=
  fresh_s (by have := signP_l x; rw [List.length_append]; omega) (by kernel_rfl) (fun w I vs hv => by
    obtain ⟨v, u, rfl, h1, h2⟩ := hv.two_inv
    obtain ⟨us, rfl, k1, k2⟩ := (Vr.rd (g := []) h2).agg_inv
    obtain ⟨a, b, rfl, e1, e2⟩ := (pureL_ok k1 (by rfl)).two_inv
    cases e1
    cases e2
    exact putSign_c (h1.bs (by omega)) (by omega)) rfl
theorem putBatch_s [Wd] (bs : List UInt8) (x : List SignedD) (hx : (dL dSigned).ok x) (hl : (bs ++ batchP x).length + 100 ≤ big) : FnP Tryz.prog 217 [.list 1 (bs.map cByte), .list 9 (x.map cSigned)] (.list 1 ((bs ++ batchP x).map cByte)) :=
  fresh_s (by omega) (by kernel_rfl) (fun w I vs hv => by
    obtain ⟨v, u, rfl, h1, h2⟩ := hv.two_inv
    exact putBatch_c ((LkL LkSigned).of (.one h2) hx) (h1.bs (by simp at hl; omega)) (by omega)) rfl
/-! the writer -/
abbrev oW (bs : List UInt8) : List AO := [.cells 297 [.list 1 (bs.map cByte)]]
/-- it puts bytes behind what the writer has -/
abbrev FnW [Wd] (f : FuncId) (ar : List D) (add : List UInt8) : Prop := ∀ bs : List UInt8, (bs ++ add).length + 200 ≤ big → FnS Tryz.prog f (.ptr 0 0 :: ar) (oW bs) (fun r h => r = .tup [] ∧ h = oW (bs ++ add))
section
variable {Q : Exit → S → Prop}
theorem okWr [Wd] {f : FuncId} {ar ar' : List D} {add bs : List UInt8} {hb : List AO} {c : D → List AO → T} (hF : FnW f ar add) (hl : (bs ++ add).length + 200 ≤ big) (hv : vwP hb [0] [0] (oW bs)) (hc : Cos ar' (D.ren.rl [0] (.ptr 0 0 :: ar))) (hM : ([0].all fun o => (foot hb ar').elem o) = true) (k : (c (.tup []) (upH hb [0] (oW bs) (oW (bs ++ add)))).ok Tryz.prog Q) : (T.call f ar' hb c).ok Tryz.prog Q :=
  okCall [0] (hF bs hl) (.mk' rfl hv) hc hM k
theorem endWr [Wd] {tb : TT} {rs : List ResultVar} {ex : Exit} {s : S} {bs bs' : List UInt8} {ds : List D} (he : ex = .normal ∨ ex = .ret) (hr : resD tb s rs = some ds) (hv : vwP s.h [0] [0] (oW bs')) (hco : Co (resV ds) (.tup [])) {add : List UInt8} (hx : bs' = bs ++ add) : (T.leaf ex s).ok Tryz.prog (Lf tb rs (oW bs) (fun r h => r = .tup [] ∧ h = oW (bs ++ add))) := by
  subst hx
  exact endObj [0] he hr rfl hv ⟨⟨rfl, rfl⟩, trivial⟩ hco
end
theorem okLt' [Wd] {P : Program} {Q : Exit → S → Prop} {a b : Nat} {t f : T} (h1 : a < b → t.ok P Q) (h2 : b ≤ a → f.ok P Q) : (T.br (decide ((a : Int) < (b : Int))) t f).ok P Q :=
  ⟨fun h => h1 (by simpa using h), fun h => h2 (by simpa using h)⟩
theorem wStr_s [Wd] (x : List UInt8) (hx : x.length ≤ 4194304) : FnW 266 [.list 1 (x.map cByte)] (byF x) := by
  intro bs hl
  refine mkS 13 [] Tryz.func266 rfl (by kernel_rfl) ?_
  repeat'
    (conv => arg 2; whnf)
    first
    | refine okAsk (by kernel_rfl) ?_
    | refine okFn (putBytes_s bs x hx (by unfold byF at hl; simp at hl ⊢; omega)) rfl (Cos.refl _) ?_
    | exact endWr (.inl rfl) rfl ⟨⟨rfl, rfl⟩, trivial⟩ (.refl _) rfl
theorem wSign_s [Wd] (x : SignD) : FnW 227 [.agg (cSign x)] (signP x) := by
  intro bs hl
  refine mkS 15 [(1, ⟨[(0, false), (1, false), (2, false), (3, false), (4, false), (6, false), (5, true), (7, true), (8, false), (9, false), (10, false), (11, true)], [0]⟩)] Tryz.func227 rfl (by kernel_rfl) ?_
  repeat'
    (conv => arg 2; whnf)
    first
    | refine okAsk (by kernel_rfl) ?_
    | refine okFn (putSign_s bs x (by simp at hl; omega)) rfl (Cos.refl _) ?_
    | exact endWr (.inl rfl) rfl ⟨⟨rfl, rfl⟩, trivial⟩ (.refl _) rfl
theorem wBatch_s [Wd] (x : List SignedD) (hx : (dL dSigned).ok x) : FnW 263 [.list 9 (x.map cSigned)] (batchP x) := by
  intro bs hl
  refine mkS 15 [] Tryz.func263 rfl (by kernel_rfl) ?_
  repeat'
    (conv => arg 2; whnf)
    first
    | refine okAsk (by kernel_rfl) ?_
    | refine okFn (putBatch_s bs x hx (by omega)) rfl (Cos.refl _) ?_
    | exact endWr (.inl rfl) rfl ⟨⟨rfl, rfl⟩, trivial⟩ (.refl _) rfl
theorem wNum_s [Wd] (l : List Int) (hl : l.length ≤ 4194304) : FnW 257 [.list 1 (l.map cNum)] (numsB l) := by
  intro bs hb
  refine mkS 23 [] Tryz.func257 rfl (by kernel_rfl) ?_
  conv => arg 2; whnf
  refine okLoop (α := Nat) (fun q => ⟨[(8, .int .i64 q), (7, .int .i64 (l.map cNum).length), (6, .list 1 (l.map cNum)), (0, .ptr 0 0)], oW (bs ++ numsB (l.take q))⟩) (fun q => q ≤ l.length) (fun q => l.length - q) 0 (Nat.zero_le _) (Sv.mk' [0] rfl ⟨⟨rfl, by simp [numsB]; rfl⟩, trivial⟩ ⟨rfl, rfl, rfl, rfl, trivial⟩) ?_
  intro q hq
  have hb' : (bs ++ numsB (l.take q)).length + 200 ≤ big := by
    have : (numsB (l.take q)).length ≤ (numsB l).length := by
      conv => rhs; rw [← List.take_append_drop q l]
      simp only [numsB, List.flatMap_append, List.length_append]; omega
    simp only [List.length_append] at hb ⊢; omega
  repeat'
    (conv => arg 2; whnf)
    first
    | refine okBrT ?_
    | refine okBrF ?_
    | refine okBr (fun h => ?_) (fun h => ?_)
    | refine okNthMap (by simpa using h) (fun x hx => ?_)
    | refine okFn (putNum_s (bs ++ numsB (l.take q)) x (by omega)) rfl (Cos.refl _) ?_
    | refine okWrap (w64 (by simp at h; omega) (by simp at h; omega)) ?_
    | refine okRaw ?_
    | refine okAgain (q + 1) (Sv.mk' [0] rfl ⟨⟨rfl, by rw [List.take_add_one, hx]; simp [numsB]; rfl⟩, trivial⟩ ⟨rfl, rfl, rfl, rfl, trivial⟩) ?_ ?_
    | refine okOut ?_
    | refine endWr (.inl rfl) rfl ⟨⟨rfl, rfl⟩, trivial⟩ (.refl _) ?_
  · simp at h; omega
  · simp at h; omega
  · rw [show l.take q = l from List.take_of_length_le (by simp at h; omega)]
theorem wMany_s [Wd] (n : Int) : FnW 265 [.int .i64 n] (encI n) := by
  intro bs hb
  have h1 : numsB [n] = encI n := by simp [numsB]
  refine mkS 8 [] Tryz.func265 rfl (by kernel_rfl) ?_
  repeat'
    (conv => arg 2; whnf)
    first
    | refine okAsk (by kernel_rfl) ?_
    | refine okWr (wNum_s [n] (by simp)) (by rw [h1]; omega) ⟨⟨rfl, rfl⟩, trivial⟩ (Cos.refl _) rfl ?_
    | refine endWr (.inl rfl) rfl ⟨⟨rfl, rfl⟩, trivial⟩ (.refl _) ?_
  rw [h1]
theorem wSigns_s [Wd] (l : List SignD) (hl : l.length ≤ 4194304) : FnW 258 [.list 2 (l.map cSign)] (signsB l) := by
  intro bs hb
  have hm : ∀ q, ((bs ++ encI (l.length : Int)) ++ (l.take q).flatMap signP).length + 200 ≤ big := fun q => by
    have : ((l.take q).flatMap signP).length ≤ (l.flatMap signP).length := by
      conv => rhs; rw [← List.take_append_drop q l]
      simp only [List.flatMap_append, List.length_append]; omega
    simp only [signsB, List.length_append] at hb ⊢; omega
  have h0 := hm 0
  refine mkS 22 [] Tryz.func258 rfl (by kernel_rfl) ?_
  repeat'
    (conv => arg 2; whnf)
    first
    | refine okAsk (by kernel_rfl) ?_
    | refine okWr (wMany_s _) (by simpa using h0) ⟨⟨rfl, rfl⟩, trivial⟩ (Cos.refl _) rfl ?_
  conv => arg 2; whnf
  refine okLoop (α := Nat) (fun q => ⟨[(14, .int .i64 q), (13, .int .i64 (l.map cSign).length), (12, .list 2 (l.map cSign)), (0, .ptr 0 0)], oW ((bs ++ encI ((l.map cSign).length : Nat)) ++ (l.take q).flatMap signP)⟩) (fun q => q ≤ l.length) (fun q => l.length - q) 0 (Nat.zero_le _) (Sv.mk' [0] rfl ⟨⟨rfl, by simp; rfl⟩, trivial⟩ ⟨rfl, rfl, rfl, rfl, trivial⟩) ?_
  intro q hq
  repeat'
    (conv => arg 2; whnf)
    first
    | refine okAsk (by kernel_rfl) ?_
    | refine okBrT ?_
    | refine okBrF ?_
    | refine okLt' (fun hlt => ?_) (fun hge => ?_)
    | refine okNthMap (by simpa using hlt) (fun x hx => ?_)
    | refine okWr (wSign_s x) (by have := hm (q + 1); rw [List.take_add_one, hx] at this; simpa using this) ⟨⟨rfl, rfl⟩, trivial⟩ (Cos.refl _) rfl ?_
    | refine okWrap (w64 (by simp at hlt; omega) (by simp at hlt; omega)) ?_
    | refine okAgain (q + 1) (Sv.mk' [0] rfl ⟨⟨rfl, by rw [List.take_add_one, hx]; simp; rfl⟩, trivial⟩ ⟨rfl, rfl, rfl, rfl, trivial⟩) ?_ ?_
    | refine okOut ?_
    | refine endWr (.inl rfl) rfl ⟨⟨rfl, rfl⟩, trivial⟩ (.refl _) ?_
  · simp at hlt; omega
  · simp at hlt; omega
  · rw [show l.take q = l from List.take_of_length_le (by simpa using hge)]
    simp [signsB]
theorem wCert_s [Wd] (c : CertD) (hc : dCert.ok c) : FnW 219 [.agg (cCert c)] (certB c) := by
  intro bs hb
  have h1 : (bs ++ numsB [c.seq, c.digest]).length + 200 ≤ big := by simp only [certB, List.length_append] at hb ⊢; omega
  refine mkS 17 [] Tryz.func219 rfl (by kernel_rfl) ?_
  repeat'
    (conv => arg 2; whnf)
    first
    | refine okAsk (by kernel_rfl) ?_
    | refine okWr (wNum_s [c.seq, c.digest] (by simp)) (h1) ⟨⟨rfl, rfl⟩, trivial⟩ (Cos.refl _) rfl ?_
    | refine okWr (wSigns_s c.signs hc.2.2.1) (by simpa only [certB, List.append_assoc] using hb) ⟨⟨rfl, rfl⟩, trivial⟩ (Cos.refl _) rfl ?_
    | refine endWr (.inl rfl) rfl ⟨⟨rfl, rfl⟩, trivial⟩ (.refl _) ?_
  simp only [certB, List.append_assoc]
end Go.Proofs.YteaggenihhaajaaGreat

/- The writer of package message over changes and proofs (printed by gen_ah.py). -/
namespace Go.Proofs.YteaggenihhaajaaGreat
open Go.RowKit
set_option linter.unusedVariables false
set_option maxRecDepth 20000

theorem fm_le {α : Type} (f : α → List UInt8) (l : List α) (q : Nat) : ((l.take q).flatMap f).length ≤ (l.flatMap f).length := by
  conv => rhs; rw [← List.take_append_drop q l]
  simp only [List.flatMap_append, List.length_append]; omega
theorem fm_at {α : Type} (f : α → List UInt8) {l : List α} {q : Nat} {x : α} (h : l[q]? = some x) : ((l.take q).flatMap f).length + (f x).length ≤ (l.flatMap f).length := by
  have := fm_le f l (q + 1)
  rw [List.take_add_one, h] at this
  simpa using this
theorem wBody_s [Wd] (c : ChangeD) (hc : dChange.ok c) : FnW 260 [.agg (cChange c)] (bodyC c) := by
  intro bs hb
  refine mkS 57 [] Tryz.func260 rfl (by kernel_rfl) ?_
  repeat'
    (conv => arg 2; whnf)
    first
    | refine okAsk (by kernel_rfl) ?_
    | refine okWr (wNum_s [c.view, c.src] (by simp)) (by simp only [bodyC, List.length_append] at hb ⊢; omega) ⟨⟨rfl, rfl⟩, trivial⟩ (Cos.refl _) rfl ?_
    | refine okWr (wCert_s c.cert hc.2.2.1) (by simp only [bodyC, List.length_append] at hb ⊢; omega) ⟨⟨rfl, rfl⟩, trivial⟩ (Cos.refl _) rfl ?_
    | refine okWr (wMany_s _) (by simp only [bodyC, List.length_append, List.length_map] at hb ⊢; omega) ⟨⟨rfl, rfl⟩, trivial⟩ (Cos.refl _) rfl ?_
  conv => arg 2; whnf
  refine okLoop (α := Nat) (fun q => ⟨[(29, .int .i64 q), (28, .int .i64 (c.above.map cPrepared).length), (27, .list 7 (c.above.map cPrepared)), (3, .ptr 1 0), (0, .ptr 0 0)], [.cells 297 [.list 1 (((bs ++ numsB [c.view, c.src] ++ certB c.cert ++ encI ((c.above.map cPrepared).length : Nat)) ++ (c.above.take q).flatMap prepB).map cByte)], .cells 77 (cChange c)]⟩) (fun q => q ≤ c.above.length) (fun q => c.above.length - q) 0 (Nat.zero_le _) (Sv.mk' [0, 1] rfl ⟨⟨rfl, by simp; rfl⟩, ⟨rfl, rfl⟩, trivial⟩ ⟨rfl, rfl, rfl, rfl, rfl, trivial⟩) ?_
  intro q hq
  have hl : c.above.length ≤ 4194304 := hc.2.2.2.1.1
  repeat'
    (conv => arg 2; whnf)
    first
    | refine okAsk (by kernel_rfl) ?_
    | refine okBrT ?_
    | refine okBrF ?_
    | refine okLt' (fun hlt => ?_) (fun hge => ?_)
    | refine okNthMap (by simpa using hlt) (fun x hx => ?_)
    | refine okWr (wNum_s [x.view, x.seq, x.digest] (by simp)) (by have := fm_at prepB hx; simp only [bodyC, prepB, List.length_append, List.length_map] at hb this ⊢; omega) ⟨⟨rfl, rfl⟩, trivial⟩ (Cos.refl _) rfl ?_
    | refine okWr (wSign_s x.firstS) (by have := fm_at prepB hx; simp only [bodyC, prepB, List.length_append, List.length_map] at hb this ⊢; omega) ⟨⟨rfl, rfl⟩, trivial⟩ (Cos.refl _) rfl ?_
    | refine okWr (wSigns_s x.signs (hc.2.2.2.1.2 x (List.mem_of_getElem? hx)).2.2.2.2.1.1) (by have := fm_at prepB hx; simp only [bodyC, prepB, List.length_append, List.length_map] at hb this ⊢; omega) ⟨⟨rfl, rfl⟩, trivial⟩ (Cos.refl _) rfl ?_
    | refine okWr (wBatch_s x.batch (hc.2.2.2.1.2 x (List.mem_of_getElem? hx)).2.2.2.2.2) (by have := fm_at prepB hx; simp only [bodyC, prepB, List.length_append, List.length_map] at hb this ⊢; omega) ⟨⟨rfl, rfl⟩, trivial⟩ (Cos.refl _) rfl ?_
    | refine okWrap (w64 (by simp at hlt; omega) (by simp at hlt; omega)) ?_
    | refine okAgain (q + 1) (Sv.mk' [0, 1] rfl ⟨⟨rfl, by rw [List.take_add_one, hx]; simp [prepB]; rfl⟩, ⟨rfl, rfl⟩, trivial⟩ ⟨rfl, rfl, rfl, rfl, rfl, trivial⟩) ?_ ?_
    | refine okOut ?_
    | refine endWr (.inl rfl) rfl ⟨⟨rfl, rfl⟩, trivial⟩ (.refl _) ?_
  · simp at hlt; omega
  · simp at hlt; omega
  · rw [show c.above.take q = c.above from List.take_of_length_le (by simpa using hge)]
    simp [bodyC]
theorem wChange_s [Wd] (c : ChangeD) (hc : dChange.ok c) : FnW 224 [.agg (cChange c)] (chgB c) := by
  intro bs hb
  refine mkS 11 [] Tryz.func224 rfl (by kernel_rfl) ?_
  repeat'
    (conv => arg 2; whnf)
    first
    | refine okAsk (by kernel_rfl) ?_
    | refine okWr (wBody_s c hc) (by simp only [chgB, List.length_append] at hb ⊢; omega) ⟨⟨rfl, rfl⟩, trivial⟩ (Cos.refl _) rfl ?_
    | refine okWr (wSign_s c.sign) (by simp only [chgB, List.length_append] at hb ⊢; omega) ⟨⟨rfl, rfl⟩, trivial⟩ (Cos.refl _) rfl ?_
    | refine endWr (.inl rfl) rfl ⟨⟨rfl, rfl⟩, trivial⟩ (.refl _) ?_
  simp [chgB]
theorem wProof_s [Wd] (p : ProofD) (hp : dProof.ok p) : FnW 267 [.agg (cProof p)] (proofB p) := by
  intro bs hb
  refine mkS 92 [(1, ⟨[(0, false), (1, false), (2, false), (3, false), (4, false), (5, true), (6, true)], [0]⟩)] Tryz.func267 rfl (by kernel_rfl) ?_
  repeat'
    (conv => arg 2; whnf)
    first
    | refine okAsk (by kernel_rfl) ?_
    | refine okWr (wStr_s p.topic hp.1) (by simp only [proofB, List.length_append] at hb ⊢; omega) ⟨⟨rfl, rfl⟩, trivial⟩ (Cos.refl _) rfl ?_
    | refine okWr (wNum_s [p.offset] (by simp)) (by simp only [proofB, List.length_append] at hb ⊢; omega) ⟨⟨rfl, rfl⟩, trivial⟩ (Cos.refl _) rfl ?_
    | refine okWr (wStr_s p.record hp.2.2.1) (by simp only [proofB, List.length_append] at hb ⊢; omega) ⟨⟨rfl, rfl⟩, trivial⟩ (Cos.refl _) rfl ?_
    | refine okWr (wMany_s _) (by simp only [proofB, List.length_append, List.length_map] at hb ⊢; omega) ⟨⟨rfl, rfl⟩, trivial⟩ (Cos.refl _) rfl ?_
    | refine okAsk (by have : p.topic.length ≤ 4194304 := hp.1; omega) ?_
  conv => arg 2; whnf
  refine okLoop (α := Nat) (fun q => ⟨[(38, .int .i64 q), (37, .int .i64 (p.headers.map cHeader).length), (36, .list 5 (p.headers.map cHeader)), (3, .ptr 1 0), (0, .ptr 0 0)], [.cells 297 [.list 1 (((bs ++ byF p.topic ++ numsB [p.offset] ++ byF p.record ++ encI ((p.headers.map cHeader).length : Nat)) ++ (p.headers.take q).flatMap headB).map cByte)], .cells 120 (cProof p)]⟩) (fun q => q ≤ p.headers.length) (fun q => p.headers.length - q) 0 (Nat.zero_le _) (Sv.mk' [0, 1] rfl ⟨⟨rfl, by simp; rfl⟩, ⟨rfl, rfl⟩, trivial⟩ ⟨rfl, rfl, rfl, rfl, rfl, trivial⟩) ?_
  intro q hq
  have hl : p.headers.length ≤ 4194304 := hp.2.2.2.1.1
  repeat'
    (conv => arg 2; whnf)
    first
    | refine okAsk (by kernel_rfl) ?_
    | refine okBrT ?_
    | refine okBrF ?_
    | refine okLt' (fun hlt => ?_) (fun hge => ?_)
    | refine okNthMap (by simpa using hlt) (fun x hx => ?_)
    | refine okWr (wNum_s [x.seq, x.prev, x.batch, x.root, x.state] (by simp)) (by have := fm_at headB hx; simp only [proofB, headB, List.length_append, List.length_map] at hb this ⊢; omega) ⟨⟨rfl, rfl⟩, trivial⟩ (Cos.refl _) rfl ?_
    | refine okWrap (w64 (by simp at hlt; omega) (by simp at hlt; omega)) ?_
    | refine okAgain (q + 1) (Sv.mk' [0, 1] rfl ⟨⟨rfl, by rw [List.take_add_one, hx]; simp [headB]; rfl⟩, ⟨rfl, rfl⟩, trivial⟩ ⟨rfl, rfl, rfl, rfl, rfl, trivial⟩) ?_ ?_
    | refine okOut ?_
    | refine okWr (wNum_s [p.index, p.count] (by simp)) (by have := fm_le headB p.headers q; simp only [proofB, List.length_append, List.length_map] at hb this ⊢; omega) ⟨⟨rfl, rfl⟩, trivial⟩ (Cos.refl _) rfl ?_
    | refine okWr (wMany_s _) (by have := fm_le headB p.headers q; simp only [proofB, List.length_append, List.length_map] at hb this ⊢; omega) ⟨⟨rfl, rfl⟩, trivial⟩ (Cos.refl _) rfl ?_
  · simp at hlt; omega
  · simp at hlt; omega
  rw [show p.headers.take q = p.headers from List.take_of_length_le (by simpa using hge)]
  clear hl hge
  conv => arg 2; whnf
  refine okLoop (α := Nat) (fun q => ⟨[(77, .int .i64 q), (76, .int .i64 (p.path.map cNum).length), (75, .list 1 (p.path.map cNum)), (3, .ptr 1 0), (0, .ptr 0 0)], [.cells 297 [.list 1 (((bs ++ byF p.topic ++ numsB [p.offset] ++ byF p.record ++ encI (p.headers.length : Int) ++ p.headers.flatMap headB ++ numsB [p.index, p.count] ++ encI ((p.path.map cNum).length : Nat)) ++ (p.path.take q).flatMap encI).map cByte)], .cells 120 (cProof p)]⟩) (fun q => q ≤ p.path.length) (fun q => p.path.length - q) 0 (Nat.zero_le _) (Sv.mk' [0, 1] rfl ⟨⟨rfl, by simp; rfl⟩, ⟨rfl, rfl⟩, trivial⟩ ⟨rfl, rfl, rfl, rfl, rfl, trivial⟩) ?_
  intro q hq
  have hl : p.path.length ≤ 4194304 := hp.2.2.2.2.2.2.1.1
  repeat'
    (conv => arg 2; whnf)
    first
    | refine okAsk (by kernel_rfl) ?_
    | refine okBrT ?_
    | refine okBrF ?_
    | refine okLt' (fun hlt => ?_) (fun hge => ?_)
    | refine okNthMap (by simpa using hlt) (fun x hx => ?_)
    | refine okWr (wNum_s [x] (by simp)) (by have := fm_at encI hx; have e : (numsB [x]).length = (encI x).length := (by simp [numsB]); simp only [proofB, List.length_append, List.length_map] at hb this ⊢; omega) ⟨⟨rfl, rfl⟩, trivial⟩ (Cos.refl _) rfl ?_
    | refine okWrap (w64 (by simp at hlt; omega) (by simp at hlt; omega)) ?_
    | refine okAgain (q + 1) (Sv.mk' [0, 1] rfl ⟨⟨rfl, by rw [List.take_add_one, hx]; simp [numsB]; rfl⟩, ⟨rfl, rfl⟩, trivial⟩ ⟨rfl, rfl, rfl, rfl, rfl, trivial⟩) ?_ ?_
    | refine okOut ?_
    | refine okWr (wCert_s p.cert hp.2.2.2.2.2.2.2) (by have := fm_le encI p.path q; simp only [proofB, List.length_append, List.length_map] at hb this ⊢; omega) ⟨⟨rfl, rfl⟩, trivial⟩ (Cos.refl _) rfl ?_
    | refine endWr (.inl rfl) rfl ⟨⟨rfl, rfl⟩, trivial⟩ (.refl _) ?_
  · simp at hlt; omega
  · simp at hlt; omega
  · rw [show p.path.take q = p.path from List.take_of_length_le (by simpa using hge)]
    simp [proofB]
end Go.Proofs.YteaggenihhaajaaGreat

