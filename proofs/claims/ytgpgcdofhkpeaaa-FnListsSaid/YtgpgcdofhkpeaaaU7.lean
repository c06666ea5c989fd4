/- Contracts of functions of the given program, for all arguments that the contract names; see each theorem. -/
import Derived.Test.YtgpgcdofhkpeaaaU6
set_option linter.all false
namespace Go.Proofs.Ytgpgcdofhkpeaaa.VE
open Go

theorem brB_size {q : Nat → Nat} {N : Nat} : (brB q N).size = N := by simp [brB, brL, ByteArray.size]
theorem tb_br {q : Nat → Nat} {N j : Nat} (hj : j < N) : tb (brB q N) j = if j < q j then 40 else 41 := by
  have hs : j < (brB q N).size := by rw [brB_size]; exact hj
  rw [tb_at hs]
  have : (brB q N)[j] = (brL q N)[j]'(by simp [brL]; exact hj) := by
    show (brB q N).data[j] = _
    simp [brB]
  rw [this]
  simp only [brL, List.getElem_map, List.getElem_range]
  split <;> rfl

theorem isD_eq (s : Int) (m : List Nat) (hm : m.length = 16) : isDs s m = isDi s m := by
  unfold isDs isDi
  by_cases h1 : 1 ≤ s ∧ s ≤ 8
  rotate_left
  · rw [decide_eq_false h1]; rfl
  obtain ⟨n, rfl⟩ : ∃ n : Nat, s = n := ⟨s.toNat, by omega⟩
  rw [decide_eq_true h1, Bool.true_and, Bool.true_and, Int.toNat_natCast]
  rw [Bool.eq_iff_iff]
  simp only [Bool.and_eq_true, decide_eq_true_eq]
  have hck : ckA n m = true ↔ ∀ j, j < 16 → (2 * n ≤ j → m.getD j 0 = 0) ∧ (j < 2 * n → m.getD j 0 < 2 * n) := by
    unfold ckA; rw [ckI_true]
    exact ⟨fun h j hj => h j (by omega) (by omega), fun h j _ hj => h j (by omega)⟩
  have hcs : ckSA n m = true ↔ ∀ j, j < 16 → (2 * n ≤ j → m.getD j 0 = 0) ∧ (j < 2 * n → m.getD j 0 < 2 * n ∧ m.getD j 0 ≠ j ∧ m.getD (m.getD j 0) 0 = j) := by
    unfold ckSA; rw [ckS_true]
    exact ⟨fun h j hj => h j (by omega) (by omega), fun h j _ hj => h j (by omega)⟩
  have ht : ∀ j, j < 2 * n → tb (brB (qq n m) (2 * n)) j = if j < qq n m j then 40 else 41 := fun j hj => tb_br hj
  have piff := pm_iff (N := 2 * n) (fun _ => 0) ht
  have hrd : ∀ (hb : ∀ j, j < 2 * n → m.getD j 0 < 2 * n) (hz : ∀ j, j < 16 → 2 * n ≤ j → m.getD j 0 = 0),
      ((rdR n (brB (qq n m) (2 * n))).2.2 = true ∧ (rdR n (brB (qq n m) (2 * n))).1 = n ∧ (rdR n (brB (qq n m) (2 * n))).2.1 = m) ↔ Planar (2 * n) (qq n m) := by
    intro hb hz
    rw [← piff]
    have qlt : ∀ j, j < 2 * n → qq n m j < 2 * n := fun j hj => plc_lt (hb _ (plc_lt hj))
    have heq : ∀ o : Nat → Nat, (∀ j, j < 2 * n → o j < 2 * n) → (jD n o (2 * n) = m ↔ ∀ j, j < 2 * n → o j = qq n m j) := by
      intro o ho
      constructor
      · intro e j hj
        have := jD_at (by omega) ho (2 * n) (Nat.le_refl _) (plc n j)
        rw [plc_inv hj, if_pos ⟨plc_lt hj, hj⟩, e] at this
        show o j = plc n (m.getD (plc n j) 0)
        rw [this, plc_inv (ho j hj)]
      · intro h
        refine eq_of_getD (jD_len _) hm fun i hi => ?_
        rw [jD_at (by omega) ho (2 * n) (Nat.le_refl _)]
        by_cases h2 : i < 2 * n
        · rw [if_pos ⟨h2, plc_lt h2⟩, h _ (plc_lt h2)]
          show plc n (plc n (m.getD (plc n (plc n i)) 0)) = _
          rw [plc_inv h2, plc_inv (hb i h2)]
        · rw [if_neg (fun hh => h2 hh.1), hz i hi (by omega)]
    unfold rdR
    rw [brB_size]
    cases hp : pm (tb (brB (qq n m) (2 * n))) (2 * n) 0 [] (fun _ => 0) with
    | none => simp
    | some p =>
      obtain ⟨st, o⟩ := p
      cases st with
      | nil =>
        have ho : ∀ j, j < 2 * n → o j < 2 * n := fun j hj => ((pm_planar hp).1.1 j hj).1
        simp only [true_and]
        rw [heq o ho]
        constructor
        · intro h; exact ⟨o, rfl, h⟩
        · rintro ⟨o', h, h2⟩
          simp only [Option.some.injEq, Prod.mk.injEq, true_and] at h
          subst h; exact h2
      | cons x r => simp
  rw [crOA_true]
  constructor
  · rintro ⟨h2, h3⟩
    have h4 := hcs.1 h2
    have hb : ∀ j, j < 2 * n → m.getD j 0 < 2 * n := fun j hj => ((h4 j (by omega)).2 hj).1
    refine ⟨hck.2 fun j hj => ⟨(h4 j hj).1, fun h => ((h4 j hj).2 h).1⟩, (hrd hb fun j hj => (h4 j hj).1).2 ((planar_iff hb).1 ⟨fun j hj => ((h4 j (by omega)).2 hj).2, h3⟩)⟩
  · rintro ⟨h2, h3⟩
    have h4 := hck.1 h2
    have hb : ∀ j, j < 2 * n → m.getD j 0 < 2 * n := fun j hj => (h4 j (by omega)).2 hj
    obtain ⟨g1, g2⟩ := (planar_iff hb).2 ((hrd hb fun j hj => (h4 j hj).1).1 h3)
    exact ⟨hcs.2 fun j hj => ⟨(h4 j hj).1, fun h => ⟨hb j h, g1 j h⟩⟩, g2⟩
end Go.Proofs.Ytgpgcdofhkpeaaa.VE
