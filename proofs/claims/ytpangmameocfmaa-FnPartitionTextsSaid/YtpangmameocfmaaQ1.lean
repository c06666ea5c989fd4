/- Contracts of functions of the given program, for all arguments that the contract names; see each theorem. -/
set_option linter.all false
namespace Go.Proofs.Ytpangmameocfmaa.VE

/-! brackets on a line: a stack's matching, as plain law -/

/-- Two partners are told of one another. -/
def up2 (o : Nat → Nat) (i k : Nat) : Nat → Nat := fun j => if j = k then i else if j = i then k else o j
/-- The stack's matching: from place k on, d places more. -/
def pm (t : Nat → Nat) : Nat → Nat → List Nat → (Nat → Nat) → Option (List Nat × (Nat → Nat))
  | 0, _, st, o => some (st, o)
  | d + 1, k, st, o => if t k = 40 then pm t d (k + 1) (k :: st) o else if t k ≠ 41 then none else
    match st with
    | [] => none
    | i :: r => pm t d (k + 1) r (up2 o i k)

/-- What holds of the stack and of the partners told, ahead of place k. -/
structure PI (t : Nat → Nat) (k : Nat) (st : List Nat) (o : Nat → Nat) : Prop where
  lt : ∀ i ∈ st, i < k
  sorted : st.Pairwise (· > ·)
  op : ∀ i ∈ st, t i = 40
  mt : ∀ j, j < k → j ∉ st → o j < k ∧ o j ≠ j ∧ o (o j) = j ∧ o j ∉ st
  op2 : ∀ j, j < k → j ∉ st → (t j = 40 ↔ j < o j)
  ins : ∀ j, j < k → j ∉ st → j < o j → ∀ c, j < c → c < o j → c ∉ st ∧ j < o c ∧ o c < o j

theorem PI.push {t : Nat → Nat} {k : Nat} {st : List Nat} {o : Nat → Nat} (h : PI t k st o) (ht : t k = 40) : PI t (k + 1) (k :: st) o := by
  refine ⟨?_, ?_, ?_, ?_, ?_, ?_⟩
  · intro i hi
    rcases List.mem_cons.1 hi with rfl | hi
    · omega
    · have := h.lt i hi; omega
  · exact List.pairwise_cons.2 ⟨fun i hi => h.lt i hi, h.sorted⟩
  · intro i hi
    rcases List.mem_cons.1 hi with rfl | hi
    · exact ht
    · exact h.op i hi
  · intro j hj hn
    have hjk : j ≠ k := fun e => hn (by simp [e])
    have hns : j ∉ st := fun e => hn (by simp [e])
    obtain ⟨h1, h2, h3, h4⟩ := h.mt j (by omega) hns
    exact ⟨by omega, h2, h3, by simp only [List.mem_cons, not_or]; exact ⟨by omega, h4⟩⟩
  · intro j hj hn
    have hjk : j ≠ k := fun e => hn (by simp [e])
    exact h.op2 j (by omega) fun e => hn (by simp [e])
  · intro j hj hn hlt c h1 h2
    have hjk : j ≠ k := fun e => hn (by simp [e])
    have hns : j ∉ st := fun e => hn (by simp [e])
    have hb := (h.mt j (by omega) hns).1
    obtain ⟨g1, g2⟩ := h.ins j (by omega) hns hlt c h1 h2
    exact ⟨by simp only [List.mem_cons, not_or]; exact ⟨by omega, g1⟩, g2⟩

theorem PI.pop {t : Nat → Nat} {k i : Nat} {st : List Nat} {o : Nat → Nat} (h : PI t k (i :: st) o) (ht : t k = 41) : PI t (k + 1) st (up2 o i k) := by
  have hik := h.lt i (by simp)
  have hgt := (List.pairwise_cons.1 h.sorted).1
  have hni : i ∉ st := fun e => by have := hgt i e; omega
  have hnk : k ∉ st := fun e => by have := h.lt k (by simp [e]); omega
  have ui : up2 o i k i = k := by simp [up2, show i ≠ k by omega]
  have uk : up2 o i k k = i := by simp [up2]
  have uo : ∀ j, j ≠ i → j ≠ k → up2 o i k j = o j := fun j h1 h2 => by simp [up2, h1, h2]
  -- an old matched place
  have old : ∀ j, j < k → j ≠ i → j ∉ st → j ∉ i :: st := fun j _ h2 h3 => by simp [h2, h3]
  refine ⟨?_, (List.pairwise_cons.1 h.sorted).2, fun x hx => h.op x (by simp [hx]), ?_, ?_, ?_⟩
  · intro x hx; have := h.lt x (by simp [hx]); omega
  · intro j hj hn
    by_cases hjk : j = k
    · subst hjk; rw [uk]; exact ⟨by omega, by omega, ui, hni⟩
    · by_cases hji : j = i
      · subst hji; rw [ui]; exact ⟨by omega, by omega, uk, hnk⟩
      · obtain ⟨h1, h2, h3, h4⟩ := h.mt j (by omega) (old j (by omega) hji hn)
        simp only [List.mem_cons, not_or] at h4
        rw [uo j hji hjk, uo (o j) h4.1 (by omega)]
        exact ⟨by omega, h2, h3, h4.2⟩
  · intro j hj hn
    by_cases hjk : j = k
    · subst hjk; rw [uk, ht]
      exact ⟨fun e => by omega, fun e => by omega⟩
    · by_cases hji : j = i
      · subst hji; rw [ui]
        exact ⟨fun _ => hik, fun _ => h.op j (by simp)⟩
      · rw [uo j hji hjk]
        exact h.op2 j (by omega) (old j (by omega) hji hn)
  · intro j hj hn hlt c h1 h2
    by_cases hjk : j = k
    · subst hjk; rw [uk] at hlt; omega
    · by_cases hji : j = i
      · -- the new pair: all between is matched, and within
        subst hji
        rw [ui] at h2 ⊢
        have hc : c ∉ st := fun e => by have := hgt c e; omega
        have hc2 : c ∉ j :: st := by simp only [List.mem_cons, not_or]; exact ⟨by omega, hc⟩
        obtain ⟨m1, m2, m3, m4⟩ := h.mt c (by omega) hc2
        simp only [List.mem_cons, not_or] at m4
        rw [uo c (by omega) (by omega)]
        refine ⟨hc, ?_, m1⟩
        rcases Nat.lt_trichotomy (o c) j with hlt2 | heq | hgt2
        · -- o c < j < c = o (o c): then j would be matched
          have hoc : o c ∉ j :: st := by simp only [List.mem_cons, not_or]; exact ⟨by omega, m4.2⟩
          have := (h.ins (o c) (by omega) hoc (by rw [m3]; omega) j hlt2 (by rw [m3]; omega)).1
          simp at this
        · exact absurd heq m4.1
        · exact hgt2
      · rw [uo j hji hjk] at hlt h2 ⊢
        have hjo := old j (by omega) hji hn
        obtain ⟨m1, _⟩ := h.mt j (by omega) hjo
        obtain ⟨g1, g2, g3⟩ := h.ins j (by omega) hjo hlt c h1 h2
        simp only [List.mem_cons, not_or] at g1
        rw [uo c g1.1 (by omega)]
        exact ⟨g1.2, g2, g3⟩

theorem pm_sound {t : Nat → Nat} : ∀ (d k : Nat) (st : List Nat) (o : Nat → Nat), PI t k st o → ∀ {st' : List Nat} {o' : Nat → Nat}, pm t d k st o = some (st', o') → PI t (k + d) st' o'
  | 0, k, st, o, h, st', o', e => by
    simp only [pm, Option.some.injEq, Prod.mk.injEq] at e
    obtain ⟨rfl, rfl⟩ := e
    exact h
  | d + 1, k, st, o, h, st', o', e => by
    unfold pm at e
    split at e
    · rename_i ht
      have := pm_sound d (k + 1) _ _ (h.push ht) e
      rwa [show k + 1 + d = k + (d + 1) from by omega] at this
    · split at e
      · cases e
      · rename_i ht
        have ht : t k = 41 := Decidable.of_not_not ht
        split at e
        · cases e
        · have := pm_sound d (k + 1) _ _ (h.pop ht) e
          rwa [show k + 1 + d = k + (d + 1) from by omega] at this

theorem PI.start (t : Nat → Nat) (o : Nat → Nat) : PI t 0 [] o :=
  ⟨by simp, List.Pairwise.nil, by simp, fun j hj => by omega, fun j hj => by omega, fun j hj => by omega⟩

/-- Pairs that do not cross. -/
def Planar (N : Nat) (q : Nat → Nat) : Prop :=
  (∀ j, j < N → q j < N ∧ q j ≠ j ∧ q (q j) = j) ∧ ∀ j c, j < N → j < q j → j < c → c < q j → j < q c ∧ q c < q j

/-- What the stack tells does not cross. -/
theorem pm_planar {t : Nat → Nat} {N : Nat} {o o' : Nat → Nat} (h : pm t N 0 [] o = some ([], o')) : Planar N o' ∧ ∀ j, j < N → (t j = 40 ↔ j < o' j) := by
  have hp := pm_sound N 0 [] o (PI.start t o) h
  rw [Nat.zero_add] at hp
  refine ⟨⟨fun j hj => ?_, fun j c hj h1 h2 h3 => ?_⟩, fun j hj => hp.op2 j hj (by simp)⟩
  · obtain ⟨a, b, c, _⟩ := hp.mt j hj (by simp)
    exact ⟨a, b, c⟩
  · exact (hp.ins j hj (by simp) h1 c h2 h3).2

/-- Of pairs that do not cross, the stack tells each. -/
theorem pm_complete {t : Nat → Nat} {N : Nat} {q : Nat → Nat} (hq : Planar N q) (ht : ∀ j, j < N → t j = if j < q j then 40 else 41) : ∀ (d k : Nat) (st : List Nat) (o : Nat → Nat), k + d = N →
    st.Pairwise (· > ·) → (∀ i, i ∈ st ↔ i < k ∧ k ≤ q i) → (∀ j, j < k → q j < k → o j = q j) → ∃ o', pm t d k st o = some ([], o') ∧ ∀ j, j < N → o' j = q j
  | 0, k, st, o, hk, hs, hm, ho => by
    have : st = [] := by
      cases st with
      | nil => rfl
      | cons i r =>
        have := (hm i).1 (by simp)
        have := (hq.1 i (by omega)).1
        omega
    subst this
    exact ⟨o, rfl, fun j hj => ho j (by omega) (by have := (hq.1 j hj).1; omega)⟩
  | d + 1, k, st, o, hk, hs, hm, ho => by
    have hkN : k < N := by omega
    obtain ⟨q1, q2, q3⟩ := hq.1 k hkN
    unfold pm
    rw [ht k hkN]
    by_cases hop : k < q k
    · rw [if_pos hop, if_pos rfl]
      refine pm_complete hq ht d (k + 1) (k :: st) o (by omega) (List.pairwise_cons.2 ⟨fun i hi => ((hm i).1 hi).1, hs⟩) (fun i => ?_) (fun j hj hqj => ?_)
      · rw [List.mem_cons, hm]
        constructor
        · rintro (rfl | ⟨h1, h2⟩)
          · omega
          · refine ⟨by omega, ?_⟩
            have : q i ≠ k := fun e => by
              have := (hq.1 i (by omega)).2.2
              rw [e] at this; omega
            omega
        · rintro ⟨h1, h2⟩
          by_cases hik : i = k
          · exact .inl hik
          · exact .inr ⟨by omega, by omega⟩
      · by_cases hjk : j = k
        · subst hjk; omega
        · have hqk : q j ≠ k := fun e => by
            have := (hq.1 j (by omega)).2.2
            rw [e] at this; omega
          exact ho j (by omega) (by omega)
    · rw [if_neg hop, if_neg (by decide), if_neg (by decide)]
      have hqk : q k < k := by omega
      have hin : q k ∈ st := (hm (q k)).2 ⟨hqk, by rw [q3]; exact Nat.le_refl _⟩
      cases st with
      | nil => simp at hin
      | cons i r =>
        obtain ⟨i1, i2⟩ := (hm i).1 (by simp)
        have hgt := (List.pairwise_cons.1 hs).1
        have hi : i = q k := by
          rcases List.mem_cons.1 hin with h | h
          · exact h.symm
          · have h1 := hgt _ h
            have hqi : q i ≠ k := fun e => by
              have := (hq.1 i (by omega)).2.2
              rw [e] at this; omega
            have h2 := hq.2 (q k) i (by omega) (by rw [q3]; exact hqk) h1 (by rw [q3]; exact i1)
            rw [q3] at h2
            omega
        subst hi
        simp only []
        refine pm_complete hq ht d (k + 1) r _ (by omega) (List.pairwise_cons.1 hs).2 (fun j => ?_) (fun j hj hqj => ?_)
        · have hnr : q k ∉ r := fun e => by have := hgt _ e; omega
          constructor
          · intro hj
            obtain ⟨h1, h2⟩ := (hm j).1 (by simp [hj])
            refine ⟨by omega, ?_⟩
            have : q j ≠ k := fun e => by
              have h3 := (hq.1 j (by omega)).2.2
              rw [e] at h3
              exact hnr (h3 ▸ hj)
            omega
          · rintro ⟨h1, h2⟩
            have hjk : j ≠ k := fun e => by subst e; omega
            have := (hm j).2 ⟨by omega, by omega⟩
            rcases List.mem_cons.1 this with rfl | h
            · rw [q3] at h2; omega
            · exact h
        · by_cases hjk : j = k
          · subst hjk; simp [up2]
          · by_cases hjq : j = q k
            · subst hjq; rw [q3]; simp [up2, show q k ≠ k from q2]
            · have hqk2 : q j ≠ k := fun e => by
                have h3 := (hq.1 j (by omega)).2.2
                rw [e] at h3; exact hjq h3.symm
              simp only [up2, if_neg hjk, if_neg hjq]
              exact ho j (by omega) (by omega)

/-- The stack tells q exactly where q does not cross. -/
theorem pm_iff {N : Nat} {q t : Nat → Nat} (o : Nat → Nat) (ht : ∀ j, j < N → t j = if j < q j then 40 else 41) : (∃ o', pm t N 0 [] o = some ([], o') ∧ ∀ j, j < N → o' j = q j) ↔ Planar N q := by
  constructor
  · rintro ⟨o', h, he⟩
    obtain ⟨⟨h1, h2⟩, _⟩ := pm_planar h
    refine ⟨fun j hj => ?_, fun j c hj g1 g2 g3 => ?_⟩
    · obtain ⟨a, b, c⟩ := h1 j hj
      rw [he j hj] at a b c
      rw [he (q j) a] at c
      exact ⟨a, b, c⟩
    · have hb := (h1 j hj).1
      rw [he j hj] at hb
      have := h2 j c hj (by rw [he j hj]; exact g1) g2 (by rw [he j hj]; exact g3)
      rw [he j hj, he c (by omega)] at this
      exact this
  · intro hq
    exact pm_complete hq ht N 0 [] o (by omega) List.Pairwise.nil (fun i => by simp) (fun j hj => by omega)
end Go.Proofs.Ytpangmameocfmaa.VE
