/- Contracts of functions of the given program, for all arguments that the contract names; see each theorem. -/
import Derived.Test.YtgpgcdofhkpeaaaU4
import Derived.Test.YtgpgcdofhkpeaaaU5
set_option linter.all false
namespace Go.Proofs.Ytgpgcdofhkpeaaa.VE
open Go

theorem ckS_true {n : Nat} {m : List Nat} : ∀ d i, ckS n m d i = true ↔ ∀ j, i ≤ j → j < i + d → (2 * n ≤ j → m.getD j 0 = 0) ∧ (j < 2 * n → m.getD j 0 < 2 * n ∧ m.getD j 0 ≠ j ∧ m.getD (m.getD j 0) 0 = j)
  | 0, i => by simp [ckS]; omega
  | d + 1, i => by
    have key : ckS n m (d + 1) i = true ↔ ((2 * n ≤ i → m.getD i 0 = 0) ∧ (i < 2 * n → m.getD i 0 < 2 * n ∧ m.getD i 0 ≠ i ∧ m.getD (m.getD i 0) 0 = i)) ∧ ckS n m d (i + 1) = true := by
      rw [ckS]
      by_cases h1 : 2 * n ≤ i
      · rw [if_pos h1]
        by_cases h2 : m.getD i 0 = 0
        · rw [if_neg (by simpa using h2)]
          exact ⟨fun h => ⟨⟨fun _ => h2, fun h3 => by omega⟩, h⟩, fun h => h.2⟩
        · rw [if_pos h2]
          exact ⟨(fun h => by cases h), fun h => absurd (h.1.1 h1) h2⟩
      · rw [if_neg h1]
        by_cases h2 : 2 * n ≤ m.getD i 0 ∨ m.getD i 0 = i ∨ m.getD (m.getD i 0) 0 ≠ i
        · rw [if_pos h2]
          refine ⟨(fun h => by cases h), fun h => ?_⟩
          obtain ⟨a, b, c⟩ := h.1.2 (by omega)
          rcases h2 with h2 | h2 | h2
          · omega
          · exact absurd h2 b
          · exact absurd c h2
        · rw [if_neg h2]
          exact ⟨fun h => ⟨⟨fun h3 => absurd h3 h1, fun _ => ⟨Nat.lt_of_not_le fun h4 => h2 (.inl h4), fun h4 => h2 (.inr (.inl h4)), Decidable.of_not_not fun h4 => h2 (.inr (.inr h4))⟩⟩, h⟩, fun h => h.2⟩
    rw [key, ckS_true d (i + 1)]
    constructor
    · rintro ⟨h1, h2⟩ j h3 h4
      by_cases hj : j = i
      · subst hj; exact h1
      · exact h2 j (by omega) (by omega)
    · intro h
      exact ⟨h i (Nat.le_refl _) (by omega), fun j h3 h4 => h j (by omega) (by omega)⟩

theorem crI_true {n : Nat} {m : List Nat} {i : Nat} : ∀ d k, crI n m i d k = true ↔ ∀ j, k ≤ j → j < k + d → ¬ (ea n m i < ea n m j ∧ ea n m j < eb n m i ∧ eb n m i < eb n m j)
  | 0, k => by simp [crI]; omega
  | d + 1, k => by
    rw [crI]
    split
    · rename_i h
      exact ⟨(fun h => by cases h), fun hh => absurd h (hh k (Nat.le_refl _) (by omega))⟩
    · rename_i h
      rw [crI_true d (k + 1)]
      constructor
      · intro hh j h1 h2
        by_cases hj : j = k
        · subst hj; exact h
        · exact hh j (by omega) (by omega)
      · exact fun hh j h1 h2 => hh j (by omega) (by omega)
theorem crO_true {n : Nat} {m : List Nat} : ∀ d i, crO n m d i = true ↔ ∀ j, i ≤ j → j < i + d → crIA n m j = true
  | 0, k => by simp [crO]; omega
  | d + 1, k => by
    rw [crO]
    split
    · rename_i h
      rw [crO_true d (k + 1)]
      constructor
      · intro hh j h1 h2
        by_cases hj : j = k
        · subst hj; exact h
        · exact hh j (by omega) (by omega)
      · exact fun hh j h1 h2 => hh j (by omega) (by omega)
    · rename_i h
      exact ⟨(fun h => by cases h), fun hh => absurd (hh k (Nat.le_refl _) (by omega)) h⟩
theorem crOA_true {n : Nat} {m : List Nat} : crOA n m = true ↔ ∀ i k, i < 2 * n → k < 2 * n → ¬ (ea n m i < ea n m k ∧ ea n m k < eb n m i ∧ eb n m i < eb n m k) := by
  unfold crOA
  rw [crO_true]
  constructor
  · intro h i k hi hk
    have := h i (by omega) (by omega)
    unfold crIA at this
    exact (crI_true _ _).1 this k (by omega) (by omega)
  · intro h i _ hi
    unfold crIA
    rw [crI_true]
    exact fun k _ hk => h i k (by omega) (by omega)

/-- The reference's conditions, on the line. -/
theorem planar_iff {n : Nat} {m : List Nat} (hb : ∀ j, j < 2 * n → m.getD j 0 < 2 * n) :
    ((∀ j, j < 2 * n → m.getD j 0 ≠ j ∧ m.getD (m.getD j 0) 0 = j) ∧ ∀ i k, i < 2 * n → k < 2 * n → ¬ (ea n m i < ea n m k ∧ ea n m k < eb n m i ∧ eb n m i < eb n m k)) ↔ Planar (2 * n) (qq n m) := by
  have qlt : ∀ j, j < 2 * n → qq n m j < 2 * n := fun j hj => plc_lt (hb _ (plc_lt hj))
  have qp : ∀ i, i < 2 * n → qq n m (plc n i) = plc n (m.getD i 0) := fun i hi => by unfold qq; rw [plc_inv hi]
  have inj : ∀ a b, a < 2 * n → b < 2 * n → plc n a = plc n b → a = b := fun a b ha hb' e => by rw [← plc_inv ha, e, plc_inv hb']
  constructor
  · rintro ⟨h1, h2⟩
    have inv : ∀ j, j < 2 * n → qq n m j < 2 * n ∧ qq n m j ≠ j ∧ qq n m (qq n m j) = j := by
      intro j hj
      obtain ⟨a, b⟩ := h1 (plc n j) (plc_lt hj)
      refine ⟨qlt j hj, fun e => a ?_, ?_⟩
      · exact inj _ _ (hb _ (plc_lt hj)) (plc_lt hj) (by rw [plc_inv hj]; exact e)
      · show qq n m (plc n (m.getD (plc n j) 0)) = j
        rw [qp _ (hb _ (plc_lt hj)), b, plc_inv hj]
    have cross : ∀ j k, j < 2 * n → k < 2 * n → ¬ (min j (qq n m j) < min k (qq n m k) ∧ min k (qq n m k) < max j (qq n m j) ∧ max j (qq n m j) < max k (qq n m k)) := by
      intro j k hj hk
      have := h2 (plc n j) (plc n k) (plc_lt hj) (plc_lt hk)
      simp only [ea, eb, plc_inv hj, plc_inv hk] at this
      exact this
    refine ⟨inv, fun j c hj g1 g2 g3 => ?_⟩
    obtain ⟨a1, a2, a3⟩ := inv j hj
    obtain ⟨b1, b2, b3⟩ := inv c (by omega)
    have n1 : qq n m c ≠ j := fun e => by rw [e] at b3; omega
    have n2 : qq n m c ≠ qq n m j := fun e => by rw [e, a3] at b3; omega
    have x1 := cross j c hj (by omega)
    have x2 := cross c j (by omega) hj
    omega
  · rintro ⟨h1, h2⟩
    refine ⟨fun i hi => ?_, fun i k hi hk => ?_⟩
    · obtain ⟨_, a, b⟩ := h1 (plc n i) (plc_lt hi)
      rw [qp i hi] at a b
      rw [qp _ (hb i hi)] at b
      exact ⟨fun e => a (by rw [e]), inj _ _ (hb _ (hb i hi)) hi b⟩
    · have pi := plc_lt hi
      have pk := plc_lt hk
      simp only [ea, eb, ← qp i hi, ← qp k hk]
      obtain ⟨a1, a2, a3⟩ := h1 _ pi
      obtain ⟨b1, b2, b3⟩ := h1 _ pk
      rintro ⟨c1, c2, c3⟩
      have y1 := h2 (plc n i) (plc n k) pi
      have y2 := h2 (plc n i) (qq n m (plc n k)) pi
      have y3 := h2 (qq n m (plc n i)) (plc n k) a1
      have y4 := h2 (qq n m (plc n i)) (qq n m (plc n k)) a1
      rw [a3] at y3 y4
      rw [b3] at y2 y4
      omega
end Go.Proofs.Ytgpgcdofhkpeaaa.VE
