/- Lemmas and contracts, part 20. -/
import Derived.Test.YtoikjgcggmemaaaGreatDoorZb19
import Derived.Lib.ItoaNum
/- A log's files on a disk: what appending, syncing, a new segment, pruning, a crash leave. Plain. -/
namespace Go.Proofs.YtoikjgcggmemaaaGreatDoor
set_option linter.unusedVariables false

theorem dec_range : ∀ u : Nat, ∀ c ∈ Lib.decDigits u, 48 ≤ c.toNat ∧ c.toNat ≤ 57 := by
  intro u
  induction u using Nat.strongRecOn with
  | _ u ih =>
    intro c hc
    rw [Lib.decDigits] at hc
    split at hc
    · simp only [List.mem_singleton] at hc
      rw [hc, UInt8.toNat_ofNat']; omega
    · rw [List.mem_append, List.mem_singleton] at hc
      rcases hc with hc | hc
      · exact ih (u / 10) (by omega) c hc
      · rw [hc, UInt8.toNat_ofNat']; omega
def decV (l : List UInt8) : Nat := l.foldl (fun a c => a * 10 + (c.toNat - 48)) 0
theorem decV_dig : ∀ u : Nat, decV (Lib.decDigits u) = u := by
  intro u
  induction u using Nat.strongRecOn with
  | _ u ih =>
    rw [Lib.decDigits]
    split
    · simp only [decV, List.foldl_cons, List.foldl_nil, UInt8.toNat_ofNat']; omega
    · unfold decV at ih ⊢
      rw [List.foldl_append, ih (u / 10) (by omega)]
      simp only [List.foldl_cons, List.foldl_nil, UInt8.toNat_ofNat']; omega
theorem itoa_nat (n : Nat) : Lib.itoa (n : Int) = Lib.decDigits n := by
  unfold Lib.itoa
  rw [if_neg (by omega)]
  simp
/-- the file of a segment's number -/
def fileN (n : Nat) : List UInt8 := nLog ++ [46] ++ Lib.itoa (n : Int)
theorem fileN_inj {a b : Nat} (h : fileN a = fileN b) : a = b := by
  unfold fileN at h
  have h := List.append_cancel_left h
  rw [itoa_nat, itoa_nat] at h
  have := congrArg decV h
  rwa [decV_dig, decV_dig] at this
theorem fileN_ne (n : Nat) : fileN n ≠ [] := by simp [fileN]
/-- a segment whose bytes are all synced -/
def wholeF (t : Sg) : Fl := ⟨fileN t.n, segB t, (segB t).length⟩
/-- the last one, of whose records k are synced -/
def lastFl (s : Sg) (k : Nat) : Fl := ⟨fileN s.n, segB s, (headF s.first ++ bodyR (s.L.take k)).length⟩
/-- segments T and the last one s, as they follow one another; no number is above N -/
structure Segs (T : List Sg) (s : Sg) (N : Nat) : Prop where
  step : (T ++ [s]).Pairwise (fun a b => a.n < b.n ∧ a.first + a.L.length ≤ b.first)
  next : ∀ i a b, (T ++ [s])[i]? = some a → (T ++ [s])[i + 1]? = some b → b.n = a.n + 1 ∧ b.first = a.first + a.L.length
  one : ∀ a ∈ T ++ [s], 1 ≤ a.n ∧ 1 ≤ a.first ∧ a.n ≤ N ∧ a.first + a.L.length ≤ N
  len : ∀ a ∈ T ++ [s], ∀ b ∈ a.L, b.length ≤ 524288
/-- its files are the disk's -/
structure OnDisk (T : List Sg) (s : Sg) (k : Nat) (d : Dk) : Prop where
  ok : d.ok
  on : d.off = false
  kl : k ≤ s.L.length
  mem : ∀ f, f ∈ d.R ↔ (∃ t ∈ T, f = wholeF t) ∨ f = lastFl s k
section
variable {T : List Sg} {s : Sg} {N k : Nat} {d : Dk}
theorem Segs.ne (h : Segs T s N) {t : Sg} (ht : t ∈ T) : t.n ≠ s.n := by
  have := (List.pairwise_append.1 h.step).2.2 t ht s (by simp)
  omega
theorem OnDisk.last (h : OnDisk T s k d) : lastFl s k ∈ d.R := (h.mem _).2 (.inr rfl)
theorem OnDisk.old (h : OnDisk T s k d) {t : Sg} (ht : t ∈ T) : wholeF t ∈ d.R := (h.mem _).2 (.inl ⟨t, ht, rfl⟩)
theorem OnDisk.all (hS : Segs T s N) (h : OnDisk T s k d) {f : Fl} (hf : f ∈ d.R) : ∃ a ∈ T ++ [s], f.nm = fileN a.n := by
  rcases (h.mem f).1 hf with ⟨t, ht, rfl⟩ | rfl
  · exact ⟨t, by simp [ht], rfl⟩
  · exact ⟨s, by simp, rfl⟩
theorem OnDisk.rest (hS : Segs T s N) (h : OnDisk T s k d) (x : Fl) : (x ∈ d.R ∧ x.nm ≠ fileN s.n) ↔ ∃ t ∈ T, x = wholeF t := by
  constructor
  · rintro ⟨hx, hn⟩
    rcases (h.mem x).1 hx with h1 | rfl
    · exact h1
    · exact absurd rfl hn
  · rintro ⟨t, ht, rfl⟩
    exact ⟨h.old ht, fun e => hS.ne ht (fileN_inj e)⟩
/-- a record more -/
theorem OnDisk.append (hS : Segs T s N) (h : OnDisk T s k d) (b : List UInt8) : appendF d (fileN s.n) (frameF b) = (30, d) ∨ ∃ d', appendF d (fileN s.n) (frameF b) = (0, d') ∧ OnDisk T { s with L := s.L ++ [b] } k d' ∧ d'.room = d.room := by
  by_cases hr : d.room - usedF d.R < ((frameF b).length : Int)
  · exact .inl (append_no h.ok h.on h.last hr)
  · obtain ⟨d', h1, h2, h3, h4, h5, h6⟩ := append_yes h.ok h.on h.last hr
    refine .inr ⟨d', h1, ⟨h2, h3, by simp only [List.length_append]; have := h.kl; omega, fun f => ?_⟩, h4⟩
    rw [h6]
    have e : (⟨fileN s.n, segB s ++ frameF b, (headF s.first ++ bodyR (s.L.take k)).length⟩ : Fl) = lastFl { s with L := s.L ++ [b] } k := by
      unfold lastFl segB
      simp only [bodyR_app, List.take_append_of_le_length h.kl]
      simp [bodyR]
    show f = ⟨fileN s.n, segB s ++ frameF b, (headF s.first ++ bodyR (s.L.take k)).length⟩ ∨ (f ∈ d.R ∧ f.nm ≠ fileN s.n) ↔ _
    rw [e, h.rest hS]
    exact Or.comm
theorem OnDisk.sync (hS : Segs T s N) (h : OnDisk T s k d) : ∃ d', syncF d (fileN s.n) = (0, d') ∧ OnDisk T s s.L.length d' ∧ d'.room = d.room := by
  obtain ⟨d', h1, h2, h3, h4, h5, h6⟩ := sync_mem h.ok h.on h.last
  refine ⟨d', h1, ⟨h2, h3, Nat.le_refl _, fun f => ?_⟩, h4⟩
  rw [h6]
  have e : (⟨fileN s.n, segB s, (segB s).length⟩ : Fl) = lastFl s s.L.length := by
    unfold lastFl segB
    rw [List.take_length]
  show f = ⟨fileN s.n, segB s, (segB s).length⟩ ∨ (f ∈ d.R ∧ f.nm ≠ fileN s.n) ↔ _
  rw [e, h.rest hS]
  exact Or.comm
/-- the next segment's file: none, or with its head -/
theorem OnDisk.begins (hS : Segs T s N) (h : OnDisk T s s.L.length d) : createF d (fileN (s.n + 1)) = (6, d) ∨
    ∃ d1, createF d (fileN (s.n + 1)) = (0, d1) ∧
      ((appendF d1 (fileN (s.n + 1)) (headF (s.first + s.L.length)) = (30, d1) ∧ ∃ d2, removeF d1 (fileN (s.n + 1)) = (0, d2) ∧ OnDisk T s s.L.length d2 ∧ d2.room = d.room) ∨
       ∃ d2, appendF d1 (fileN (s.n + 1)) (headF (s.first + s.L.length)) = (0, d2) ∧ ∃ d3, syncF d2 (fileN (s.n + 1)) = (0, d3) ∧ OnDisk (T ++ [s]) ⟨s.n + 1, s.first + s.L.length, []⟩ 0 d3 ∧ d3.room = d.room) := by
  have hno : ∀ f ∈ d.R, f.nm ≠ fileN (s.n + 1) := fun f hf e => by
    obtain ⟨a, ha, e2⟩ := h.all hS hf
    have e3 := fileN_inj (e2.symm.trans e)
    rcases List.mem_append.1 ha with ha | ha
    · have := (List.pairwise_append.1 hS.step).2.2 a ha s (by simp)
      omega
    · simp only [List.mem_singleton] at ha
      subst ha
      omega
  rcases create_mem h.ok h.on (fileN_ne _) hno with ⟨_, h1⟩ | ⟨d1, h1, h2, h3, h4, h5⟩
  · exact .inl h1
  · refine .inr ⟨d1, h1, ?_⟩
    have hf : (⟨fileN (s.n + 1), [], 0⟩ : Fl) ∈ d1.R := (h5 _).2 (.inl rfl)
    by_cases hr : d1.room - usedF d1.R < ((headF (s.first + s.L.length)).length : Int)
    · obtain ⟨d2, g1, g2, g3, g4, g5⟩ := remove_mem h2 h3 hf
      refine .inl ⟨append_no h2 h3 hf hr, d2, g1, ⟨g2, g3, Nat.le_refl _, fun f => ?_⟩, g4.trans h4⟩
      rw [g5, h5, ← h.mem]
      constructor
      · rintro ⟨rfl | hx, hn⟩
        · exact absurd rfl hn
        · exact hx
      · exact fun hx => ⟨.inr hx, hno f hx⟩
    · obtain ⟨d2, g1, g2, g3, g4, _, g5⟩ := append_yes h2 h3 hf hr
      have hf2 : (⟨fileN (s.n + 1), [] ++ headF (s.first + s.L.length), 0⟩ : Fl) ∈ d2.R := (g5 _).2 (.inl rfl)
      obtain ⟨d3, k1, k2, k3, k4, _, k5⟩ := sync_mem g2 g3 hf2
      refine .inr ⟨d2, g1, d3, k1, ⟨k2, k3, Nat.zero_le _, fun f => ?_⟩, k4.trans (g4.trans h4)⟩
      have eL : (⟨fileN (s.n + 1), [] ++ headF (s.first + s.L.length), ([] ++ headF (s.first + s.L.length)).length⟩ : Fl) = lastFl ⟨s.n + 1, s.first + s.L.length, []⟩ 0 := by
        unfold lastFl segB
        simp [bodyR]
      have eW : lastFl s s.L.length = wholeF s := by
        unfold lastFl wholeF segB
        rw [List.take_length]
      rw [k5]
      show f = ⟨fileN (s.n + 1), [] ++ headF (s.first + s.L.length), ([] ++ headF (s.first + s.L.length)).length⟩ ∨ _ ↔ _
      rw [eL]
      constructor
      · rintro (rfl | ⟨hx, hn⟩)
        · exact .inr rfl
        · left
          rcases (g5 f).1 hx with rfl | ⟨hx, _⟩
          · exact absurd rfl hn
          · rcases (h5 f).1 hx with rfl | hx
            · exact absurd rfl hn
            · rcases (h.mem f).1 hx with ⟨t, ht, rfl⟩ | rfl
              · exact ⟨t, by simp [ht], rfl⟩
              · exact ⟨s, by simp, eW⟩
      · rintro (⟨t, ht, rfl⟩ | rfl)
        · have hx : wholeF t ∈ d.R := by
            rcases List.mem_append.1 ht with ht | ht
            · exact h.old ht
            · simp only [List.mem_singleton] at ht
              subst ht
              rw [← eW]
              exact h.last
          exact .inr ⟨(g5 _).2 (.inr ⟨(h5 _).2 (.inr hx), hno _ hx⟩), hno _ hx⟩
        · exact .inl rfl
/-- the first segment goes -/
theorem OnDisk.prune {t : Sg} (hS : Segs (t :: T) s N) (h : OnDisk (t :: T) s k d) : ∃ d', removeF d (fileN t.n) = (0, d') ∧ OnDisk T s k d' ∧ d'.room = d.room := by
  obtain ⟨d', h1, h2, h3, h4, h5⟩ := remove_mem h.ok h.on (h.old (t := t) (by simp))
  refine ⟨d', h1, ⟨h2, h3, h.kl, fun f => ?_⟩, h4⟩
  have hp := hS.step
  rw [List.cons_append, List.pairwise_cons] at hp
  rw [h5, h.mem]
  constructor
  · rintro ⟨⟨u, hu, rfl⟩ | rfl, hn⟩
    · rcases List.mem_cons.1 hu with rfl | hu
      · exact absurd rfl hn
      · exact .inl ⟨u, hu, rfl⟩
    · exact .inr rfl
  · rintro (⟨u, hu, rfl⟩ | rfl)
    · refine ⟨.inl ⟨u, by simp [hu], rfl⟩, fun e => ?_⟩
      have := hp.1 u (by simp [hu])
      have := fileN_inj (show fileN u.n = fileN t.n from e)
      omega
    · refine ⟨.inr rfl, fun e => ?_⟩
      have := hp.1 s (by simp)
      have := fileN_inj (show fileN s.n = fileN t.n from e)
      omega
theorem Segs.tail {t : Sg} (hS : Segs (t :: T) s N) : Segs T s N := by
  refine ⟨?_, fun i a b h1 h2 => hS.next (i + 1) a b (by simpa using h1) (by simpa using h2), fun a ha => hS.one a (by simp at ha ⊢; rcases ha with ha | ha <;> simp [ha]), fun a ha => hS.len a (by simp at ha ⊢; rcases ha with ha | ha <;> simp [ha])⟩
  have := hS.step
  rw [List.cons_append, List.pairwise_cons] at this
  exact this.2
end
end Go.Proofs.YtoikjgcggmemaaaGreatDoor

/- A log's files behind a crash, and opened again. Plain. -/
namespace Go.Proofs.YtoikjgcggmemaaaGreatDoor
set_option linter.unusedVariables false

/-- the files of a log whose last one has something behind its whole frames -/
structure Torn (T : List Sg) (s : Sg) (rest : List UInt8) (d : Dk) : Prop where
  ok : d.ok
  on : d.off = false
  un : unframeF rest = none
  mem : ∀ f, f ∈ d.R ↔ (∃ t ∈ T, f = wholeF t) ∨ f = ⟨fileN s.n, segB s ++ rest, (segB s ++ rest).length⟩
section
variable {T : List Sg} {s : Sg} {N k : Nat} {d : Dk} {rest : List UInt8}
theorem Segs.cut (hS : Segs T s N) (j : Nat) : Segs T { s with L := s.L.take j } N := by
  have hl : (s.L.take j).length ≤ s.L.length := by rw [List.length_take]; omega
  refine ⟨?_, fun i a b h1 h2 => ?_, fun a ha => ?_, fun a ha b hb => ?_⟩
  · have h := List.pairwise_append.1 hS.step
    refine List.pairwise_append.2 ⟨h.1, List.pairwise_singleton _ _, fun a ha b hb => ?_⟩
    simp only [List.mem_singleton] at hb
    subst hb
    exact h.2.2 a ha s (by simp)
  · have hi : i < T.length := by
      have := (List.getElem?_eq_some_iff.1 h2).1
      simp only [List.length_append, List.length_singleton] at this
      omega
    rw [List.getElem?_append_left hi] at h1
    by_cases hi2 : i + 1 < T.length
    · rw [List.getElem?_append_left hi2] at h2
      exact hS.next i a b (by rw [List.getElem?_append_left hi]; exact h1) (by rw [List.getElem?_append_left hi2]; exact h2)
    · rw [List.getElem?_append_right (by omega), show i + 1 - T.length = 0 by omega] at h2
      simp only [List.getElem?_cons_zero, Option.some.injEq] at h2
      subst h2
      exact hS.next i a s (by rw [List.getElem?_append_left hi]; exact h1) (by rw [List.getElem?_append_right (by omega), show i + 1 - T.length = 0 by omega]; rfl)
  · rcases List.mem_append.1 ha with h | h
    · exact hS.one a (by simp [h])
    · simp only [List.mem_singleton] at h
      subst h
      have := hS.one s (by simp)
      exact ⟨this.1, this.2.1, this.2.2.1, by simp only; omega⟩
  · rcases List.mem_append.1 ha with h | h
    · exact hS.len a (by simp [h]) b hb
    · simp only [List.mem_singleton] at h
      subst h
      exact hS.len s (by simp) b (List.mem_of_mem_take hb)
theorem OnDisk.torn (h : OnDisk T s s.L.length d) : Torn T s [] d := by
  refine ⟨h.ok, h.on, unframe_nil, fun f => ?_⟩
  rw [h.mem]
  have e : lastFl s s.L.length = ⟨fileN s.n, segB s ++ [], (segB s ++ []).length⟩ := by
    unfold lastFl segB
    rw [List.take_length, List.append_nil]
  rw [e]
theorem OnDisk.crash (hS : Segs T s N) (h : OnDisk T s k d) (keep : Int) : ∃ d1 d2 j rest, crashF d keep = (0, d1) ∧ restartF d1 = (0, d2) ∧ d2.room = d.room ∧ k ≤ j ∧ j ≤ s.L.length ∧ Torn T { s with L := s.L.take j } rest d2 := by
  obtain ⟨d1, h1, h2, h3, h4⟩ := crash_mem h.on keep
  have ok1 := crash_ok h.ok keep
  rw [h1] at ok1
  have hsure := h.ok.sure _ h.last
  obtain ⟨m, m1, m2, m3⟩ := crash_between keep (lastFl s k) hsure
  obtain ⟨j, rest, j1, j2, j3, j4⟩ := seg_cut (s := s) (hS.len s (by simp)) h.kl m1
  have e : restartF d1 = (0, { d1 with off := false }) := by
    unfold restartF
    rw [h2]
    rfl
  have ok2 := restart_ok ok1
  rw [e] at ok2
  refine ⟨d1, _, j, rest, h1, e, h3, j1, j2, ⟨ok2, rfl, j4, fun f => ?_⟩⟩
  have eL : crashB keep (lastFl s k) = ⟨fileN s.n, segB { s with L := s.L.take j } ++ rest, (segB { s with L := s.L.take j } ++ rest).length⟩ := by
    rw [m3, ← j3]
    have : ((segB s).take m).length = m := by
      rw [List.length_take]
      have : m ≤ (segB s).length := m2
      omega
    rw [this]
    rfl
  show f ∈ d1.R ↔ _
  rw [h4]
  constructor
  · rintro ⟨g, hg, rfl⟩
    rcases (h.mem g).1 hg with ⟨t, ht, rfl⟩ | rfl
    · exact .inl ⟨t, ht, crash_whole _ _ _⟩
    · exact .inr eL
  · rintro (⟨t, ht, rfl⟩ | rfl)
    · exact ⟨wholeF t, h.old ht, (crash_whole _ _ _).symm⟩
    · exact ⟨lastFl s k, h.last, eL.symm⟩
theorem Torn.last (h : Torn T s rest d) : (⟨fileN s.n, segB s ++ rest, (segB s ++ rest).length⟩ : Fl) ∈ d.R := (h.mem _).2 (.inr rfl)
theorem Torn.old (h : Torn T s rest d) {t : Sg} (ht : t ∈ T) : wholeF t ∈ d.R := (h.mem _).2 (.inl ⟨t, ht, rfl⟩)
theorem Torn.others (hS : Segs T s N) (h : Torn T s rest d) (x : Fl) : (x ∈ d.R ∧ x.nm ≠ fileN s.n) ↔ ∃ t ∈ T, x = wholeF t := by
  constructor
  · rintro ⟨hx, hn⟩
    rcases (h.mem x).1 hx with h1 | rfl
    · exact h1
    · exact absurd rfl hn
  · rintro ⟨t, ht, rfl⟩
    exact ⟨h.old ht, fun e => hS.ne ht (fileN_inj e)⟩
/-- what stands behind the whole frames is cut off, and the file synced -/
theorem Torn.mend (hS : Segs T s N) (h : Torn T s rest d) : ∃ d1, truncF d (fileN s.n) ((segB s).length : Int) = (0, d1) ∧ ∃ d2, syncF d1 (fileN s.n) = (0, d2) ∧ OnDisk T s s.L.length d2 ∧ d2.room = d.room := by
  obtain ⟨d1, h1, h2, h3, h4, _, h6⟩ := trunc_mem h.ok h.on h.last (k := (segB s).length) (by simp)
  have hf : (⟨fileN s.n, (segB s ++ rest).take (segB s).length, min (segB s ++ rest).length (segB s).length⟩ : Fl) ∈ d1.R := (h6 _).2 (.inl rfl)
  obtain ⟨d2, g1, g2, g3, g4, _, g6⟩ := sync_mem h2 h3 hf
  refine ⟨d1, h1, d2, g1, ⟨g2, g3, Nat.le_refl _, fun f => ?_⟩, g4.trans h4⟩
  have e : (⟨fileN s.n, (segB s ++ rest).take (segB s).length, ((segB s ++ rest).take (segB s).length).length⟩ : Fl) = lastFl s s.L.length := by
    unfold lastFl
    rw [List.take_left, List.take_length]
    rfl
  rw [g6]
  show f = ⟨fileN s.n, (segB s ++ rest).take (segB s).length, ((segB s ++ rest).take (segB s).length).length⟩ ∨ (f ∈ d1.R ∧ f.nm ≠ fileN s.n) ↔ _
  rw [e, ← h.others hS]
  constructor
  · rintro (rfl | ⟨hx, hn⟩)
    · exact .inr rfl
    · rcases (h6 f).1 hx with rfl | hx
      · exact absurd rfl hn
      · exact .inl ⟨hx.1, hn⟩
  · rintro (hx | rfl)
    · exact .inr ⟨(h6 f).2 (.inr hx), hx.2⟩
    · exact .inl rfl
theorem Torn.sync (hS : Segs T s N) (h : Torn T s [] d) : ∃ d2, syncF d (fileN s.n) = (0, d2) ∧ OnDisk T s s.L.length d2 ∧ d2.room = d.room := by
  obtain ⟨d2, g1, g2, g3, g4, _, g6⟩ := sync_mem h.ok h.on h.last
  refine ⟨d2, g1, ⟨g2, g3, Nat.le_refl _, fun f => ?_⟩, g4⟩
  have e : (⟨fileN s.n, segB s ++ [], (segB s ++ []).length⟩ : Fl) = lastFl s s.L.length := by
    unfold lastFl
    rw [List.take_length, List.append_nil]
    rfl
  rw [g6]
  show f = ⟨fileN s.n, segB s ++ [], (segB s ++ []).length⟩ ∨ (f ∈ d.R ∧ f.nm ≠ fileN s.n) ↔ _
  rw [e, h.others hS]
  exact Or.comm
/-- what is read of a segment's file -/
theorem seg_head (h : 1 ≤ s.first ∧ s.first ≤ 9007199254740992) (x : List UInt8) : headOf (segB s ++ x) = some (s.first, (headF s.first).length) := by
  unfold segB
  rw [List.append_assoc]
  exact head_read h.1 h.2 _
theorem seg_read (hL : ∀ b ∈ s.L, b.length ≤ 524288) {x : List UInt8} (hx : unframeF x = none) : framesF ((segB s ++ x).drop (headF s.first).length) = s.L.map (fun b => (b, (frameF b).length)) := by
  unfold segB
  rw [List.append_assoc, List.drop_left]
  exact seg_frames hL hx
end
/-- rising lists with the same members are the same -/
theorem asc_eq : ∀ {l k : List Nat}, l.Pairwise (· < ·) → k.Pairwise (· < ·) → (∀ x, x ∈ l ↔ x ∈ k) → l = k
  | [], [], _, _, _ => rfl
  | [], y :: k, _, _, h => by have := (h y).2 (by simp); simp at this
  | x :: l, [], _, _, h => by have := (h x).1 (by simp); simp at this
  | x :: l, y :: k, hl, hk, h => by
    rw [List.pairwise_cons] at hl hk
    have e : x = y := by
      have h1 := (h x).1 (by simp)
      have h2 := (h y).2 (by simp)
      rcases List.mem_cons.1 h1 with h1 | h1
      · exact h1
      · rcases List.mem_cons.1 h2 with h2 | h2
        · exact h2.symm
        · have a := hk.1 x h1
          have b := hl.1 y h2
          omega
    subst e
    congr 1
    refine asc_eq hl.2 hk.2 fun z => ?_
    have hz := h z
    simp only [List.mem_cons] at hz
    constructor
    · intro hm
      rcases hz.1 (.inr hm) with rfl | h1
      · exact absurd (hl.1 z hm) (by omega)
      · exact h1
    · intro hm
      rcases hz.2 (.inr hm) with rfl | h1
      · exact absurd (hk.1 z hm) (by omega)
      · exact h1
theorem Segs.asc {T : List Sg} {s : Sg} {N : Nat} (h : Segs T s N) : ((T ++ [s]).map Sg.n).Pairwise (· < ·) := List.pairwise_map.2 (h.step.imp fun h => h.1)
end Go.Proofs.YtoikjgcggmemaaaGreatDoor

/- A log's records by their numbers; segments that grow. Plain. -/
namespace Go.Proofs.YtoikjgcggmemaaaGreatDoor
set_option linter.unusedVariables false

section
variable {T : List Sg} {s : Sg} {N : Nat}
theorem Segs.up {N' : Nat} (h : Segs T s N) (hN : N ≤ N') : Segs T s N' :=
  ⟨h.step, h.next, fun a ha => by have := h.one a ha; omega, h.len⟩
/-- the segments that follow one another, made longer at the end -/
theorem Segs.append (h : Segs T s N) {b : List UInt8} (hb : b.length ≤ 524288) : Segs T { s with L := s.L ++ [b] } (N + 1) := by
  have hp := List.pairwise_append.1 h.step
  refine ⟨List.pairwise_append.2 ⟨hp.1, List.pairwise_singleton _ _, fun a ha c hc => ?_⟩, fun i a c h1 h2 => ?_, fun a ha => ?_, fun a ha c hc => ?_⟩
  · simp only [List.mem_singleton] at hc
    subst hc
    exact hp.2.2 a ha s (by simp)
  · have hi : i < T.length := by
      have := (List.getElem?_eq_some_iff.1 h2).1
      simp only [List.length_append, List.length_singleton] at this
      omega
    rw [List.getElem?_append_left hi] at h1
    by_cases hi2 : i + 1 < T.length
    · rw [List.getElem?_append_left hi2] at h2
      exact h.next i a c (by rw [List.getElem?_append_left hi]; exact h1) (by rw [List.getElem?_append_left hi2]; exact h2)
    · rw [List.getElem?_append_right (by omega), show i + 1 - T.length = 0 by omega] at h2
      simp only [List.getElem?_cons_zero, Option.some.injEq] at h2
      subst h2
      exact h.next i a s (by rw [List.getElem?_append_left hi]; exact h1) (by rw [List.getElem?_append_right (by omega), show i + 1 - T.length = 0 by omega]; rfl)
  · rcases List.mem_append.1 ha with k | k
    · have := h.one a (by simp [k])
      omega
    · simp only [List.mem_singleton] at k
      subst k
      have := h.one s (by simp)
      refine ⟨this.1, this.2.1, by simp only; omega, ?_⟩
      simp only [List.length_append, List.length_singleton]
      omega
  · rcases List.mem_append.1 ha with k | k
    · exact h.len a (by simp [k]) c hc
    · simp only [List.mem_singleton] at k
      subst k
      rcases List.mem_append.1 hc with hc | hc
      · exact h.len s (by simp) c hc
      · simp only [List.mem_singleton] at hc
        subst hc
        exact hb
/-- the next segment -/
theorem Segs.roll (h : Segs T s N) : Segs (T ++ [s]) ⟨s.n + 1, s.first + s.L.length, []⟩ (N + 1) := by
  have hs := h.one s (by simp)
  refine ⟨List.pairwise_append.2 ⟨h.step, List.pairwise_singleton _ _, fun a ha c hc => ?_⟩, fun i a c h1 h2 => ?_, fun a ha => ?_, fun a ha c hc => ?_⟩
  · simp only [List.mem_singleton] at hc
    subst hc
    rcases List.mem_append.1 ha with k | k
    · have := (List.pairwise_append.1 h.step).2.2 a k s (by simp)
      refine ⟨by simp only; omega, by simp only; omega⟩
    · simp only [List.mem_singleton] at k
      subst k
      exact ⟨by simp only; omega, by simp only; omega⟩
  · have hi : i < (T ++ [s]).length := by
      have := (List.getElem?_eq_some_iff.1 h2).1
      simp only [List.length_append, List.length_singleton] at this ⊢
      omega
    rw [List.getElem?_append_left hi] at h1
    by_cases hi2 : i + 1 < (T ++ [s]).length
    · rw [List.getElem?_append_left hi2] at h2
      exact h.next i a c h1 h2
    · have e : i = T.length := by
        simp only [List.length_append, List.length_singleton] at hi hi2
        omega
      subst e
      rw [List.getElem?_append_right (by simp)] at h1 h2
      simp at h1 h2
      subst h1 h2
      exact ⟨rfl, rfl⟩
  · rcases List.mem_append.1 ha with k | k
    · have := h.one a k
      omega
    · simp only [List.mem_singleton] at k
      subst k
      simp only [List.length_nil]
      omega
  · rcases List.mem_append.1 ha with k | k
    · exact h.len a k c hc
    · simp only [List.mem_singleton] at k
      subst k
      cases hc
/-- all records, and the first one's number -/
def recs (T : List Sg) (s : Sg) : List (List UInt8) := (T ++ [s]).flatMap Sg.L
def first0 (T : List Sg) (s : Sg) : Nat := ((T ++ [s]).head?.map Sg.first).getD 0
theorem recs_snoc (T : List Sg) (s : Sg) : recs T s = T.flatMap Sg.L ++ s.L := by simp [recs]
theorem recs_cons (t : Sg) (T : List Sg) (s : Sg) : recs (t :: T) s = t.L ++ recs T s := by simp [recs]
theorem first_cons (t : Sg) (T : List Sg) (s : Sg) : first0 (t :: T) s = t.first := by simp [first0]
theorem first_one : first0 [] s = s.first := by simp [first0]
theorem Segs.count : ∀ {T : List Sg}, Segs T s N → s.first + s.L.length = first0 T s + (recs T s).length
  | [], _ => by simp [first0, recs]
  | t :: T, h => by
    have ih := Segs.count h.tail
    rw [recs_cons, first_cons, List.length_append, ih]
    cases T with
    | nil =>
      have := h.next 0 t s rfl rfl
      rw [first_one]; omega
    | cons u U =>
      have := h.next 0 t u rfl rfl
      rw [first_cons]; omega
theorem Segs.prune_first {t : Sg} (h : Segs (t :: T) s N) : first0 T s = t.first + t.L.length := by
  cases T with
  | nil => rw [first_one]; exact (h.next 0 t s rfl rfl).2
  | cons u U => rw [first_cons]; exact (h.next 0 t u rfl rfl).2
/-- what a map tells of the records -/
def Kept (F : Nat → Option (List UInt8)) (T : List Sg) (s : Sg) : Prop := ∀ i b, (recs T s)[i]? = some b → F (first0 T s + i) = some b
theorem Kept.append {F F' : Nat → Option (List UInt8)} (h : Kept F T s) (hS : Segs T s N) {b : List UInt8} (h1 : F' (s.first + s.L.length) = some b) (h2 : ∀ n, n ≠ s.first + s.L.length → F' n = F n) : Kept F' T { s with L := s.L ++ [b] } := by
  have hc := hS.count
  have e1 : recs T { s with L := s.L ++ [b] } = recs T s ++ [b] := by rw [recs_snoc, recs_snoc, List.append_assoc]
  have e2 : first0 T { s with L := s.L ++ [b] } = first0 T s := by cases T <;> simp [first0]
  intro i c hi
  rw [e1] at hi
  rw [e2]
  by_cases hl : i < (recs T s).length
  · rw [List.getElem?_append_left hl] at hi
    rw [h2 _ (by omega)]
    exact h i c hi
  · rw [List.getElem?_append_right (by omega)] at hi
    have : i - (recs T s).length = 0 := by
      have := (List.getElem?_eq_some_iff.1 hi).1
      simp at this
      omega
    rw [this] at hi
    simp at hi
    subst hi
    rw [show first0 T s + i = s.first + s.L.length by omega]
    exact h1
theorem Kept.roll {F : Nat → Option (List UInt8)} (h : Kept F T s) {n f : Nat} : Kept F (T ++ [s]) ⟨n, f, []⟩ := by
  have e1 : recs (T ++ [s]) ⟨n, f, []⟩ = recs T s := by simp [recs]
  have e2 : first0 (T ++ [s]) ⟨n, f, []⟩ = first0 T s := by cases T <;> simp [first0]
  intro i b hi
  rw [e1] at hi
  rw [e2]
  exact h i b hi
theorem Kept.prune {F : Nat → Option (List UInt8)} {t : Sg} (hS : Segs (t :: T) s N) (h : Kept F (t :: T) s) : Kept F T s := by
  intro i b hi
  have := h (t.L.length + i) b (by rw [recs_cons, List.getElem?_append_right (by omega), Nat.add_sub_cancel_left]; exact hi)
  rw [first_cons] at this
  rw [hS.prune_first, Nat.add_assoc]
  exact this
theorem Kept.cut {F : Nat → Option (List UInt8)} (h : Kept F T s) (j : Nat) : Kept F T { s with L := s.L.take j } := by
  have e2 : first0 T { s with L := s.L.take j } = first0 T s := by cases T <;> simp [first0]
  intro i b hi
  rw [e2]
  refine h i b ?_
  rw [recs_snoc] at hi ⊢
  simp only at hi
  by_cases hl : i < (T.flatMap Sg.L).length
  · rw [List.getElem?_append_left hl] at hi ⊢
    exact hi
  · rw [List.getElem?_append_right (by omega)] at hi ⊢
    rw [List.getElem?_take] at hi
    split at hi
    · exact hi
    · cases hi
end
end Go.Proofs.YtoikjgcggmemaaaGreatDoor

/- A log of several segments as objects. -/
namespace Go.Proofs.YtoikjgcggmemaaaGreatDoor
open Go.RowKit Go.Deep Go.Maps
set_option linter.unusedVariables false

/-- a segment's cells: beside it the slice of its records -/
def segV (x : Sg × Value) : List Value := [.int .i64 x.1.n, .int .i64 x.1.first, x.2, .int .i64 (segB x.1).length]
def segsV (G : List (Sg × Value)) : List Value := G.flatMap segV
theorem segsV_len (G : List (Sg × Value)) : (segsV G).length = G.length * 4 := by
  induction G with
  | nil => rfl
  | cons x G ih => simp only [segsV, List.flatMap_cons, List.length_append, List.length_cons] at ih ⊢; rw [ih]; simp [segV]; omega
theorem segsV_cons (x : Sg × Value) (G : List (Sg × Value)) : segsV (x :: G) = segV x ++ segsV G := rfl
theorem segsV_snoc (x : Sg × Value) (G : List (Sg × Value)) : segsV (G ++ [x]) = segsV G ++ segV x := by simp [segsV]
theorem segsV_at : ∀ {G : List (Sg × Value)} {i : Nat} {x : Sg × Value}, G[i]? = some x → ∀ {j : Nat} {v : Value}, (segV x)[j]? = some v → (segsV G)[4 * i + j]? = some v
  | [], i, x, h, _, _ => by simp at h
  | y :: G, 0, x, h, j, v => fun hj => by
    simp only [List.getElem?_cons_zero, Option.some.injEq] at h
    subst h
    rw [segsV_cons, List.getElem?_append_left (by have := (List.getElem?_eq_some_iff.1 hj).1; omega)]
    simpa using hj
  | y :: G, i + 1, x, h, j, v => fun hj => by
    rw [segsV_cons, List.getElem?_append_right (by simp [segV]; omega), show 4 * (i + 1) + j - (segV y).length = 4 * i + j by simp [segV]; omega]
    exact segsV_at (by simpa using h) hj
theorem segsV_set {G : List (Sg × Value)} {x y : Sg × Value} {j : Nat} {u : Value} (hj : j < 4) (h : (segV x).set j u = segV y) : (segsV (G ++ [x])).set (4 * G.length + j) u = segsV (G ++ [y]) := by
  have hl := segsV_len G
  rw [segsV_snoc, segsV_snoc, List.set_append_right _ _ (by omega), show 4 * G.length + j - (segsV G).length = j by omega, h]
/-- the records of each segment -/
def plsL (G : List (Sg × Value)) : List Asn := G.map fun x => aPl x.2 x.1.L
def logC (dp : Nat) (sure : Int) (v : Value) : Array Value := #[.pointer (some ⟨dp, 0, none⟩), .string (bstr nLog), .int .i64 64, v, .int .i64 sure]
/-- a log's objects -/
def lgM (p dp : Nat) (G : List (Sg × Value)) (sure : Int) (g off c : Nat) : List Asn :=
  aBlk p 54 (logC dp sure (.slice (some ⟨g, off, none⟩) G.length c)) :: aOff 67 4 g off G.length c (segsV G) :: plsL G
/-- a log of such segments -/
def aLgs (p dp : Nat) (A : List Sg) (sure : Int) : Asn := aSome (fun x : List (Sg × Value) × Nat × Nat × Nat => x.1.map Prod.fst = A) (fun x => lgM p dp x.1 sure x.2.1 x.2.2.1 x.2.2.2)
section
variable {W w : World} {p dp g off c : Nat} {G : List (Sg × Value)} {A : List Sg} {sure : Int} {X : List Asn} {x : Sg × Value}
theorem aLgs.open_ (h : St W w (aLgs p dp A sure :: X)) : ∃ G g off c, G.map Prod.fst = A ∧ St W w (lgM p dp G sure g off c ++ X) := by
  obtain ⟨x, h1, h2⟩ := h.open_
  exact ⟨x.1, x.2.1, x.2.2.1, x.2.2.2, h1, h2⟩
theorem aLgs.shut (hA : G.map Prod.fst = A) (h : St W w (lgM p dp G sure g off c ++ X)) : St W w (aLgs p dp A sure :: X) := St.shut (a := (G, g, off, c)) hA h
theorem map_snoc {s : Sg} {T : List Sg} (h : G.map Prod.fst = T ++ [s]) : ∃ H v, G = H ++ [(s, v)] ∧ H.map Prod.fst = T := by
  obtain ⟨H, K, rfl, h1, h2⟩ := List.map_eq_append_iff.1 h
  obtain ⟨⟨t, v⟩, rfl, h4⟩ := List.map_eq_singleton_iff.1 h2
  simp only at h4
  subst h4
  exact ⟨H, v, rfl, h1⟩
theorem map_cons' {t : Sg} {T : List Sg} (h : G.map Prod.fst = t :: T) : ∃ v H, G = (t, v) :: H ∧ H.map Prod.fst = T := by
  obtain ⟨⟨u, v⟩, H, rfl, h1, h2⟩ := List.map_eq_cons_iff.1 h
  simp only at h1
  subst h1
  exact ⟨v, H, rfl, h2⟩
theorem map_at {i : Nat} {a : Sg} (h : G.map Prod.fst = A) (hi : A[i]? = some a) : ∃ v, G[i]? = some (a, v) := by
  rw [← h, List.getElem?_map, Option.map_eq_some_iff] at hi
  obtain ⟨⟨b, v⟩, h1, rfl⟩ := hi
  exact ⟨v, h1⟩
theorem lgM.blk (h : St W w (lgM p dp G sure g off c ++ X)) : Blk w p 54 (logC dp sure (.slice (some ⟨g, off, none⟩) G.length c)) := aBlk.get h
/-- its own cells -/
theorem lgM.cells (h : St W w (lgM p dp G sure g off c ++ X)) : w.cell? ⟨p, 0, none⟩ = some (.pointer (some ⟨dp, 0, none⟩)) ∧ w.cell? ⟨p, 1, none⟩ = some (.string (bstr nLog)) ∧ w.cell? ⟨p, 2, none⟩ = some (.int .i64 64) ∧ w.cell? ⟨p, 3, none⟩ = some (.slice (some ⟨g, off, none⟩) G.length c) ∧ w.cell? ⟨p, 4, none⟩ = some (.int .i64 sure) := by
  have hb := lgM.blk h
  have c0 := hb.cell 0
  have c1 := hb.cell 1
  have c2 := hb.cell 2
  have c3 := hb.cell 3
  have c4 := hb.cell 4
  simp [logC] at c0 c1 c2 c3 c4
  exact ⟨c0, c1, c2, c3, c4⟩
/-- a segment's cells -/
theorem lgM.seg (h : St W w (lgM p dp G sure g off c ++ X)) {i : Nat} (hi : G[i]? = some x) : w.cell? ⟨g, off + 4 * i, none⟩ = some (.int .i64 x.1.n) ∧ w.cell? ⟨g, off + 4 * i + 1, none⟩ = some (.int .i64 x.1.first) ∧ w.cell? ⟨g, off + 4 * i + 2, none⟩ = some x.2 ∧ w.cell? ⟨g, off + 4 * i + 3, none⟩ = some (.int .i64 (segB x.1).length) := by
  have hs := St.swap h
  have k0 := aOff.cell hs (segsV_at hi (j := 0) rfl)
  have k1 := aOff.cell hs (segsV_at hi (j := 1) rfl)
  have k2 := aOff.cell hs (segsV_at hi (j := 2) rfl)
  have k3 := aOff.cell hs (segsV_at hi (j := 3) rfl)
  simp only [← Nat.add_assoc, Nat.add_zero] at k0 k1 k2 k3
  exact ⟨k0, k1, k2, k3⟩
/-- a segment's records by themselves -/
theorem lgM.recAt (h : St W w (lgM p dp G sure g off c ++ X)) {i : Nat} (hi : G[i]? = some x) : ∃ Y, (lgM p dp G sure g off c ++ X).Perm (aPl x.2 x.1.L :: Y) := by
  have hm : aPl x.2 x.1.L ∈ plsL G := List.mem_map.2 ⟨x, List.mem_of_getElem? hi, rfl⟩
  obtain ⟨l1, l2, e⟩ := List.append_of_mem hm
  have := List.perm_middle (a := aPl x.2 x.1.L) (l₁ := aBlk p 54 (logC dp sure (.slice (some ⟨g, off, none⟩) G.length c)) :: aOff 67 4 g off G.length c (segsV G) :: l1) (l₂ := l2 ++ X)
  unfold lgM
  rw [e]
  exact ⟨_, by simpa using this⟩
theorem lgM.rec1 (h : St W w (lgM p dp G sure g off c ++ X)) {i : Nat} (hi : G[i]? = some x) : ∃ Y, St W w (aPl x.2 x.1.L :: Y) := by
  obtain ⟨Y, hY⟩ := lgM.recAt h hi
  exact ⟨Y, h.perm hY⟩
theorem lgM.slice (h : St W w (lgM p dp G sure g off c ++ X)) {i : Nat} (hi : G[i]? = some x) : ∃ B c', x.2 = .slice B x.1.L.length c' := by
  obtain ⟨Y, hY⟩ := lgM.rec1 h hi
  exact aPl.slice hY
theorem lgM.len (h : St W w (lgM p dp G sure g off c ++ X)) : G.length ≤ c ∧ c ≤ maxLen := (aOff.len (St.swap h)).2
end
end Go.Proofs.YtoikjgcggmemaaaGreatDoor

/- A log's objects turned: a record more, a segment more, the first segment gone. No program here. -/
namespace Go.Proofs.YtoikjgcggmemaaaGreatDoor
open Go.RowKit Go.Deep Go.Maps
set_option linter.unusedVariables false

section
variable {W w : World} {p dp g off c : Nat} {H G : List (Sg × Value)} {sure : Int} {X : List Asn} {x : Sg × Value} {v : Value} {s : Sg}
/-- what is sure -/
theorem lgM.setSure (h : St W w (lgM p dp G sure g off c ++ X)) (n : Int) : St W (w.setCell ⟨p, 4, none⟩ (.int .i64 n)) (lgM p dp G n g off c ++ X) := aBlk.set h 4 (.int .i64 n)
/-- the last segment's records, by themselves -/
theorem lgM.last (h : St W w (lgM p dp (H ++ [x]) sure g off c ++ X)) : St W w (aPl x.2 x.1.L :: aOff 67 4 g off (H.length + 1) c (segsV (H ++ [x])) :: aBlk p 54 (logC dp sure (.slice (some ⟨g, off, none⟩) (H.length + 1) c)) :: (plsL H ++ X)) := by
  have e : lgM p dp (H ++ [x]) sure g off c ++ X = aBlk p 54 (logC dp sure (.slice (some ⟨g, off, none⟩) (H.length + 1) c)) :: aOff 67 4 g off (H.length + 1) c (segsV (H ++ [x])) :: (plsL H ++ aPl x.2 x.1.L :: X) := by
    simp [lgM, plsL]
  rw [e] at h
  have h2 : St W w (aPl x.2 x.1.L :: aBlk p 54 (logC dp sure (.slice (some ⟨g, off, none⟩) (H.length + 1) c)) :: aOff 67 4 g off (H.length + 1) c (segsV (H ++ [x])) :: (plsL H ++ X)) := h.perm (List.perm_middle (l₁ := aBlk p 54 (logC dp sure (.slice (some ⟨g, off, none⟩) (H.length + 1) c)) :: aOff 67 4 g off (H.length + 1) c (segsV (H ++ [x])) :: plsL H) (l₂ := X))
  exact h2.swap2
theorem lgM.of_last (h : St W w (aPl x.2 x.1.L :: aOff 67 4 g off (H.length + 1) c (segsV (H ++ [x])) :: aBlk p 54 (logC dp sure (.slice (some ⟨g, off, none⟩) (H.length + 1) c)) :: (plsL H ++ X))) : St W w (lgM p dp (H ++ [x]) sure g off c ++ X) := by
  have e : lgM p dp (H ++ [x]) sure g off c ++ X = aBlk p 54 (logC dp sure (.slice (some ⟨g, off, none⟩) (H.length + 1) c)) :: aOff 67 4 g off (H.length + 1) c (segsV (H ++ [x])) :: (plsL H ++ aPl x.2 x.1.L :: X) := by
    simp [lgM, plsL]
  rw [e]
  exact h.swap2.perm (List.perm_middle (l₁ := aBlk p 54 (logC dp sure (.slice (some ⟨g, off, none⟩) (H.length + 1) c)) :: aOff 67 4 g off (H.length + 1) c (segsV (H ++ [x])) :: plsL H) (l₂ := X)).symm
/-- a record more: the last segment's slice and size are stored -/
theorem lgM.add {v' : Value} {b : List UInt8} (h : St W w (aPl v' (s.L ++ [b]) :: aOff 67 4 g off (H.length + 1) c (segsV (H ++ [(s, v)])) :: aBlk p 54 (logC dp sure (.slice (some ⟨g, off, none⟩) (H.length + 1) c)) :: (plsL H ++ X))) :
    St W ((w.setCell ⟨g, off + 4 * H.length + 2, none⟩ v').setCell ⟨g, off + 4 * H.length + 3, none⟩ (.int .i64 (((segB s).length : Int) + (frameF b).length))) (lgM p dp (H ++ [({ s with L := s.L ++ [b] }, v')]) sure g off c ++ X) := by
  have h1 := aOff.set h.swap (j := 4 * H.length + 2) (by omega) v'
  have h2 := aOff.set h1 (j := 4 * H.length + 3) (by omega) (.int .i64 (((segB s).length : Int) + (frameF b).length))
  simp only [← Nat.add_assoc] at h2
  refine lgM.of_last (H := H) (x := ({ s with L := s.L ++ [b] }, v')) ?_
  have e2 : ((segsV (H ++ [(s, v)])).set (4 * H.length + 2) v').set (4 * H.length + 3) (.int .i64 (((segB s).length : Int) + (frameF b).length)) = segsV (H ++ [({ s with L := s.L ++ [b] }, v')]) := by
    have hl := segsV_len H
    have hz : (segB { s with L := s.L ++ [b] }).length = (segB s).length + (frameF b).length := by
      simp only [segB, bodyR_app, List.length_append]
      simp [bodyR]; omega
    rw [segsV_snoc, segsV_snoc, List.set_append_right _ _ (by omega), List.set_append_right _ _ (by omega), show 4 * H.length + 2 - (segsV H).length = 2 by omega, show 4 * H.length + 3 - (segsV H).length = 3 by omega]
    simp only [segV, hz, List.set_cons_succ, List.set_cons_zero, Int.natCast_add]
  rw [e2] at h2
  exact h2.swap
/-- the first segment is cut off -/
theorem lgM.cut (h : St W w (lgM p dp ((s, v) :: H) sure g off c ++ X)) : St W (w.setCell ⟨p, 3, none⟩ (.slice (some ⟨g, off + 4, none⟩) H.length (c - 1))) (lgM p dp H sure g (off + 4) (c - 1) ++ X) := by
  have h0 : St W w (aBlk p 54 (logC dp sure (.slice (some ⟨g, off, none⟩) (H.length + 1) c)) :: aOff 67 4 g off (H.length + 1) c (segsV ((s, v) :: H)) :: aPl v s.L :: (plsL H ++ X)) := h
  have h1 := aBlk.set h0 3 (.slice (some ⟨g, off + 4, none⟩) H.length (c - 1))
  have h2 := aOff.cut h1.swap (by omega)
  exact h2.rot3.drop.swap
/-- a segment more: the slice is stored -/
theorem lgM.snoc {v0 : Value} {g' off' c' : Nat} (h : St W w (aOff 67 4 g' off' (H.length + 1) c' (segsV H ++ [.int .i64 s.n, .int .i64 s.first, .slice none 0 0, .int .i64 (segB s).length]) :: aBlk p 54 (logC dp sure v0) :: (plsL H ++ X))) (hs : s.L = []) :
    St W (w.setCell ⟨p, 3, none⟩ (.slice (some ⟨g', off', none⟩) (H.length + 1) c')) (lgM p dp (H ++ [(s, .slice none 0 0)]) sure g' off' c' ++ X) := by
  refine lgM.of_last (x := (s, .slice none 0 0)) ?_
  rw [hs, segsV_snoc]
  exact aPl.nil (St.swap (aBlk.set h.swap 3 (.slice (some ⟨g', off', none⟩) (H.length + 1) c')))
end
end Go.Proofs.YtoikjgcggmemaaaGreatDoor

/- Append laws: a row that is read and full, in a block of its own; a row that begins somewhere in its block. No program here. -/
namespace Go.Proofs.YtoikjgcggmemaaaGreatDoor
open Go.RowKit Go.Deep Go.Maps
set_option linter.unusedVariables false

section
variable {P : Program} {W w : World} {L : List Asn}
theorem Src.of_Rd {sz m : Nat} {tx e' : TypeId} {u : Value} {news : List Value} (hk : P.underlying tx = some (.slice e')) (h : Rd w u m sz news) (h1 : ∀ x ∈ news, x.oneCell' = true) : Src P sz tx u m news w := by
  obtain ⟨hl, A, cap, rfl, hn, hc, hr⟩ := h
  cases A with
  | none =>
    obtain ⟨rfl, rfl⟩ := hn rfl
    have hnil : news = [] := List.eq_nil_of_length_eq_zero (by simpa using hl)
    subst hnil
    exact Src.ofNil w hk 0
  | some ad => exact Src.ofSlice w hk ad m cap news hl (hr ad rfl).2 h1
theorem append_fresh {t ty e : TypeId} {z : Value} {sz bytes : Nat} (ht : P.underlying t = some (.slice e)) (hie : (P.info? e).map (fun i => (i.zero, i.size, i.bytes)) = some (some z, sz, bytes)) (hz : z.cells.size = sz)
    {n m : Nat} {A : Option Addr} {u : Value} {xs news : List Value} (hx : Rd w (.slice A n n) n sz xs) (hu : Rd w u m sz news) (h1 : ∀ x ∈ news, x.oneCell' = true) (hm : 0 < m) (h63 : n + m ≤ maxLen) (hroom : (n + m) * bytes ≤ 140737488355328) :
    ∃ c w', (Builtin.append_ #[t, t] ty #[.slice A n n, u]).run P w = .ok (.slice (some ⟨w.heap.size, 0, none⟩) (n + m) c) w' ∧ B w w' ∧ w'.ownsRow w.heap.size e sz (.slice (some ⟨w.heap.size, 0, none⟩) (n + m) c) (n + m) (xs ++ news) := by
  obtain ⟨i, hi, hz0, hs, hb⟩ := info_parts hie
  subst hs hb
  have hsr := Src.of_Rd (P := P) (tx := t) ht hu h1
  obtain ⟨hl, A', cap, e1, hn, hc, hr⟩ := hx
  injection e1 with e1 _ e2
  subst e1 e2
  have hold : (Builtin.firstCells i.size n (.slice A n n)).run P w.drew = .ok xs.toArray w.drew := by
    cases A with
    | none =>
      obtain ⟨rfl, _⟩ := hn rfl
      have hnil : xs = [] := List.eq_nil_of_length_eq_zero (by simpa using hl)
      subst hnil
      exact run_firstCells_none w.drew i.size 0 0 0
    | some ad => exact run_firstCells_some w.drew i.size n ad n n xs hl (by simpa using (hr ad rfl).2)
  have hrun := run_append_grow_src (P := P) w t t ty e i z ht hi hz0 A n n xs hold u m news hsr (by omega) (by unfold maxLen at h63; omega) (growslice_fits (by omega) hroom)
  have hge := grownCap_ge w (n + m) n e
  have hcm := grownCap_le_maxLen w (n + m) n e h63
  have hlen : (xs ++ news).length = (n + m) * i.size := by rw [List.length_append, hl, hsr.newsLen, Nat.add_mul]
  refine ⟨_, _, hrun, Below.trans (show Below w.heap.size w w.drew from (Below.refl _ _).drew) (show Below w.heap.size w.drew _ from B.alloc' w.drew _), hlen, .inr ⟨_, _, _, rfl, Nat.le_refl _, heap_alloc_new w.drew _, hge, hcm, ?_, ?_⟩⟩
  · rw [Array.size_append, size_zeroCells, hz, List.size_toArray, hlen, ← Nat.add_mul]
    congr 1
    omega
  · rw [Array.toList_append, ← hlen, List.take_left' (by simp)]
section
variable {ops : Array Oper} {rest : List Oper} {o : Oper} {a : Act} {K : Act → World → Prop} {Q : Exit → Act → World → Prop} {E : Prop}
/-- in a region that draws: a row that is read and full is appended to, in a block of its own -/
theorem step_append_fresh (hgd : o.guard = none) (s x : Operand) (t : TypeId) (ho : o.op = .call { callee := .builtin .append, args := #[s, x], argTypes := #[t, t] })
    {e : TypeId} {z : Value} {sz bytes : Nat} (ht : P.underlying t = some (.slice e)) (hie : (P.info? e).map (fun i => (i.zero, i.size, i.bytes)) = some (some z, sz, bytes)) (hz : z.cells.size = sz)
    {n m : Nat} {A : Option Addr} {u : Value} {xs news : List Value} (hs : a.eval s = .slice A n n) (hx : a.eval x = u) (hS : St W w L) (hr : Rd w (.slice A n n) n sz xs) (hu : Rd w u m sz news) (h1 : ∀ x ∈ news, x.oneCell' = true) (hm : 0 < m) (h63 : n + m ≤ maxLen) (hroom : (n + m) * bytes ≤ 140737488355328)
    (h : ∀ c w', St W w' (aRow e sz (.slice (some ⟨w.heap.size, 0, none⟩) (n + m) c) (n + m) (xs ++ news) :: L) → K (a.put o.dst (.slice (some ⟨w.heap.size, 0, none⟩) (n + m) c)) w') :
    if Region.wanted o (yielded ops a.tmps) = true then Oper.wp P o a w K Q else E := by
  obtain ⟨c, w', hrun, hb, hown⟩ := append_fresh (P := P) (t := t) (ty := o.type) ht hie hz hr hu h1 hm h63 hroom
  exact step_append_run hgd s x t ho hs hx hrun (h c w' (hS.addRow hb hown))
/-- a row that begins somewhere in its block -/
theorem step_append_Off (hgd : o.guard = none) (s x : Operand) (t : TypeId) (ho : o.op = .call { callee := .builtin .append, args := #[s, x], argTypes := #[t, t] })
    {e : TypeId} {z : Value} {sz bytes : Nat} (ht : P.underlying t = some (.slice e)) (hie : (P.info? e).map (fun i => (i.zero, i.size, i.bytes)) = some (some z, sz, bytes)) (hz : z.cells.size = sz) (hsz : 0 < sz)
    {n m g off c : Nat} {u : Value} {xs news : List Value} (hs : a.eval s = .slice (some ⟨g, off, none⟩) n c) (hx : a.eval x = u) (hS : St W w (aOff e sz g off n c xs :: L)) (hu : Rd w u m sz news) (h1 : ∀ x ∈ news, x.oneCell' = true) (h63 : n + m ≤ maxLen) (hroom : (n + m) * bytes ≤ 140737488355328)
    (h : ∀ g' off' c' w', St W w' (aOff e sz g' off' (n + m) c' (xs ++ news) :: L) → K (a.put o.dst (.slice (some ⟨g', off', none⟩) (n + m) c')) w') :
    if Region.wanted o (yielded ops a.tmps) = true then Oper.wp P o a w K Q else E := by
  obtain ⟨i, hi, hz0, hs0, hb⟩ := info_parts hie
  subst hs0 hb
  obtain ⟨g', off', c', w', hrun, hS'⟩ := aOff.append (P := P) (ty := o.type) hS ht hi hz0 hz hsz (Src.of_Rd (P := P) (tx := t) ht hu h1) h63 hroom
  exact step_append_run hgd s x t ho hs hx hrun (h g' off' c' w' hS')
theorem wpList_append_Off (hgd : o.guard = none) (s x : Operand) (t : TypeId) (ho : o.op = .call { callee := .builtin .append, args := #[s, x], argTypes := #[t, t] })
    {e : TypeId} {z : Value} {sz bytes : Nat} (ht : P.underlying t = some (.slice e)) (hie : (P.info? e).map (fun i => (i.zero, i.size, i.bytes)) = some (some z, sz, bytes)) (hz : z.cells.size = sz) (hsz : 0 < sz)
    {n m g off c : Nat} {u : Value} {xs news : List Value} (hs : a.eval s = .slice (some ⟨g, off, none⟩) n c) (hx : a.eval x = u) (hS : St W w (aOff e sz g off n c xs :: L)) (hu : Rd w u m sz news) (h1 : ∀ x ∈ news, x.oneCell' = true) (h63 : n + m ≤ maxLen) (hroom : (n + m) * bytes ≤ 140737488355328)
    (h : ∀ g' off' c' w', St W w' (aOff e sz g' off' (n + m) c' (xs ++ news) :: L) → wpList P ops Q rest (a.put o.dst (.slice (some ⟨g', off', none⟩) (n + m) c')) w') :
    wpList P ops Q (o :: rest) a w := by
  obtain ⟨i, hi, hz0, hs0, hb⟩ := info_parts hie
  subst hs0 hb
  obtain ⟨g', off', c', w', hrun, hS'⟩ := aOff.append (P := P) (ty := o.type) hS ht hi hz0 hz hsz (Src.of_Rd (P := P) (tx := t) ht hu h1) h63 hroom
  exact wpList_append_run hgd s x t ho hs hx hrun (h g' off' c' w' hS')
end
/-- a row's front and back, as they are read -/
theorem Rd.take {A : Option Addr} {n c k sz : Nat} {xs : List Value} (h : Rd w (.slice A n c) n sz xs) (hk : k ≤ n) : Rd w (.slice A k k) k sz (xs.take (k * sz)) ∨ (A = none ∧ k = 0) := by
  obtain ⟨hl, A', cap, e1, hn, hc, hr⟩ := h
  injection e1 with e1 _ e2
  subst e1 e2
  cases A with
  | none => right; have := hn rfl; exact ⟨rfl, by omega⟩
  | some ad =>
    left
    have hks : k * sz ≤ n * sz := Nat.mul_le_mul_right _ hk
    refine ⟨by rw [List.length_take, hl]; omega, some ad, k, rfl, fun e => (by cases e), Nat.le_refl _, fun ad' had => ?_⟩
    cases had
    refine ⟨fun h0 => (hr ad rfl).1 (by omega), fun j x hj => (hr ad rfl).2 j x ?_⟩
    rw [List.getElem?_take] at hj
    split at hj
    · exact hj
    · cases hj
theorem Rd.dropAt {g n c k : Nat} {xs : List Value} (h : Rd w (.slice (some ⟨g, 0, none⟩) n c) n 1 xs) (hk : k ≤ n) : Rd w (.slice (some ⟨g, k, none⟩) (n - k) (c - k)) (n - k) 1 (xs.drop k) := by
  obtain ⟨hl, A', cap, e1, hn, hc, hr⟩ := h
  injection e1 with e1 _ e2
  subst e1 e2
  refine ⟨by rw [List.length_drop, hl]; omega, _, _, rfl, fun e => (by cases e), by omega, fun ad' had => ?_⟩
  cases had
  obtain ⟨h1, h2⟩ := hr _ rfl
  refine ⟨fun h0 => h1 (by omega), fun j x hj => ?_⟩
  rw [List.getElem?_drop] at hj
  have := h2 _ _ hj
  rw [addr_at] at this ⊢
  rw [show k + j = 0 + (k + j) by omega]
  exact this
end
end Go.Proofs.YtoikjgcggmemaaaGreatDoor

/- Numbers put in order; a disk's files as numbers. Plain. -/
namespace Go.Proofs.YtoikjgcggmemaaaGreatDoor
set_option linter.unusedVariables false

/-- a number put into a rising list, ahead of all that are above it -/
theorem ins_asc {M : List Nat} {n k : Nat} (hM : M.Pairwise (· < ·)) (hn : n ∉ M) (hk : k ≤ M.length) (h1 : ∀ j x, k ≤ j → M[j]? = some x → n < x) (h2 : k = 0 ∨ ∃ x, M[k - 1]? = some x ∧ ¬ n < x) : (M.take k ++ n :: M.drop k).Pairwise (· < ·) := by
  rw [List.pairwise_append]
  refine ⟨hM.sublist (List.take_sublist _ _), List.pairwise_cons.2 ⟨fun x hx => ?_, hM.sublist (List.drop_sublist _ _)⟩, fun a ha b hb => ?_⟩
  · obtain ⟨j, hj⟩ := List.getElem?_of_mem hx
    rw [List.getElem?_drop] at hj
    exact h1 _ _ (by omega) hj
  · obtain ⟨i, hi⟩ := List.getElem?_of_mem ha
    rw [List.getElem?_take] at hi
    split at hi
    · rename_i hik
      have han : a < n := by
        rcases h2 with rfl | ⟨x, hx, hxn⟩
        · omega
        · have hne : a ≠ n := fun e => hn (e ▸ List.mem_of_getElem? hi)
          have : a ≤ x := by
            by_cases e : i = k - 1
            · rw [e, hx] at hi
              injection hi with hi
              omega
            · obtain ⟨l1, e1⟩ := List.getElem?_eq_some_iff.1 hi
              obtain ⟨l2, e2⟩ := List.getElem?_eq_some_iff.1 hx
              have := (List.pairwise_iff_getElem.1 hM) i (k - 1) l1 l2 (by omega)
              omega
          omega
      rcases List.mem_cons.1 hb with rfl | hb
      · exact han
      · obtain ⟨j, hj⟩ := List.getElem?_of_mem hb
        rw [List.getElem?_drop] at hj
        have := h1 _ _ (by omega) hj
        omega
    · cases hi
theorem ins_mem {M : List Nat} {n k : Nat} (x : Nat) : x ∈ M.take k ++ n :: M.drop k ↔ x = n ∨ x ∈ M := by
  conv => rhs; rw [← List.take_append_drop k M]
  simp only [List.mem_append, List.mem_cons]
  constructor
  · rintro (h | h | h) <;> simp [h]
  · rintro (h | h | h) <;> simp [h]
/-- the numbers of a disk's files -/
def Nums (R : List Fl) (ns : List Nat) : Prop := R.map Fl.nm = ns.map fileN ∧ ns.Nodup ∧ ∀ n ∈ ns, 1 ≤ n
theorem nums_of {R : List Fl} {A : List Sg} (hr : R.Pairwise (fun a b => bytesBefore a.nm b.nm = true)) (h : ∀ f ∈ R, ∃ a ∈ A, f.nm = fileN a.n) (h1 : ∀ a ∈ A, 1 ≤ a.n) : ∃ ns, Nums R ns ∧ ∀ n ∈ ns, ∃ a ∈ A, a.n = n := by
  induction R with
  | nil => exact ⟨[], ⟨rfl, List.nodup_nil, by simp⟩, by simp⟩
  | cons f R ih =>
    rw [List.pairwise_cons] at hr
    obtain ⟨ns, ⟨e1, e2, e3⟩, e4⟩ := ih hr.2 (fun g hg => h g (by simp [hg]))
    obtain ⟨a, ha, hf⟩ := h f (by simp)
    refine ⟨a.n :: ns, ⟨by simp [e1, hf], List.nodup_cons.2 ⟨fun hm => ?_, e2⟩, fun n hn => ?_⟩, fun n hn => ?_⟩
    · have : fileN a.n ∈ R.map Fl.nm := by rw [e1]; exact List.mem_map.2 ⟨a.n, hm, rfl⟩
      obtain ⟨g, hg, eg⟩ := List.mem_map.1 this
      have := hr.1 g hg
      rw [hf, eg, bb_irr] at this
      cases this
    · rcases List.mem_cons.1 hn with rfl | hn
      · exact h1 a ha
      · exact e3 n hn
    · rcases List.mem_cons.1 hn with rfl | hn
      · exact ⟨a, ha, rfl⟩
      · exact e4 n hn
/-- a log's files are its segments' -/
theorem Torn.nums {T : List Sg} {s : Sg} {N : Nat} {rest : List UInt8} {d : Dk} (hS : Segs T s N) (h : Torn T s rest d) : ∃ ns, Nums d.R ns ∧ ∀ n, n ∈ ns ↔ n ∈ (T ++ [s]).map Sg.n := by
  have hall : ∀ f ∈ d.R, ∃ a ∈ T ++ [s], f.nm = fileN a.n := fun f hf => by
    rcases (h.mem f).1 hf with ⟨t, ht, rfl⟩ | rfl
    · exact ⟨t, by simp [ht], rfl⟩
    · exact ⟨s, by simp, rfl⟩
  obtain ⟨ns, h1, h2⟩ := nums_of h.ok.rise hall (fun a ha => (hS.one a ha).1)
  refine ⟨ns, h1, fun n => ⟨fun hn => ?_, fun hn => ?_⟩⟩
  · obtain ⟨a, ha, rfl⟩ := h2 n hn
    exact List.mem_map.2 ⟨a, ha, rfl⟩
  · obtain ⟨a, ha, rfl⟩ := List.mem_map.1 hn
    have hm : fileN a.n ∈ d.R.map Fl.nm := by
      rcases List.mem_append.1 ha with ha | ha
      · exact List.mem_map.2 ⟨_, h.old ha, rfl⟩
      · simp only [List.mem_singleton] at ha
        subst ha
        exact List.mem_map.2 ⟨_, h.last, rfl⟩
    rw [h1.1] at hm
    obtain ⟨m, hm, e⟩ := List.mem_map.1 hm
    rw [← fileN_inj e]
    exact hm
/-- rising numbers that follow one another -/
theorem Segs.consec {T : List Sg} {s : Sg} {N : Nat} (h : Segs T s N) : ∀ {i : Nat} {a : Sg}, (T ++ [s])[i]? = some a → ∀ b, (T ++ [s])[0]? = some b → a.n = b.n + i
  | 0, a, ha, b, hb => by rw [ha] at hb; injection hb with hb; subst hb; rfl
  | i + 1, a, ha, b, hb => by
    have hi : i < (T ++ [s]).length := by have := (List.getElem?_eq_some_iff.1 ha).1; omega
    have e : (T ++ [s])[i]? = some (T ++ [s])[i] := List.getElem?_eq_getElem hi
    have h1 := h.consec e b hb
    have h2 := (h.next i _ _ e ha).1
    omega
end Go.Proofs.YtoikjgcggmemaaaGreatDoor
