/- Contracts of functions of the given program, for all arguments that the contract names; see each theorem. -/
import Derived.Test.YtpangmameocfmaaT25
import Derived.Test.YtpangmameocfmaaT26
set_option linter.all false
namespace Go.Proofs.Ytpangmameocfmaa.VE.P
open Go
set_option maxHeartbeats 800000
set_option maxRecDepth 100000

/-! parts of two: the partner of a point -/
theorem kC_none {f : Nat → Nat} {j : Nat} : ∀ {N}, kC f N j = 0 → ∀ t, t < N → f t ≠ j
  | 0, _, t, ht => by omega
  | N + 1, h, t, ht => by
    simp only [kC] at h
    intro e
    by_cases htN : t = N
    · subst htN; rw [if_pos e] at h; omega
    · exact kC_none (N := N) (by omega) t (by omega) e
theorem kC_rem {f f1 : Nat → Nat} {j x : Nat} (hf : ∀ t, f1 t = if t = x then j + 1 else f t) : ∀ N, kC f N j = kC f1 N j + (if x < N ∧ f x = j then 1 else 0)
  | 0 => by simp [kC]
  | N + 1 => by
    have ih := kC_rem (f := f) (j := j) (x := x) hf N
    have hN := hf N
    simp only [kC]
    rw [ih]
    by_cases h : N = x
    · subst h
      rw [if_pos rfl] at hN
      rw [if_neg (show ¬ (f1 N = j) by omega), if_neg (show ¬ (N < N ∧ f N = j) by omega)]
      by_cases h2 : f N = j
      · rw [if_pos h2, if_pos ⟨by omega, h2⟩]
      · rw [if_neg h2, if_neg (fun h => h2 h.2)]
    · rw [if_neg h] at hN
      have e : (if x < N + 1 ∧ f x = j then 1 else 0) = if x < N ∧ f x = j then 1 else 0 := by
        by_cases h2 : x < N ∧ f x = j
        · rw [if_pos h2, if_pos ⟨by omega, h2.2⟩]
        · rw [if_neg h2, if_neg (fun h3 => h2 ⟨by omega, h3.2⟩)]
      rw [hN, e]
      omega
theorem kC_pos {f : Nat → Nat} {j : Nat} : ∀ {N}, 0 < kC f N j → ∃ t, t < N ∧ f t = j
  | 0, h => by simp [kC] at h
  | N + 1, h => by
    simp only [kC] at h
    by_cases hf : f N = j
    · exact ⟨N, by omega, hf⟩
    · rw [if_neg hf] at h
      obtain ⟨t, h1, h2⟩ := kC_pos (N := N) (by omega)
      exact ⟨t, by omega, h2⟩
theorem kC_two {f : Nat → Nat} {N x : Nat} (hx : x < N) (h : kC f N (f x) = 2) : ∃ y, y < N ∧ y ≠ x ∧ f y = f x ∧ ∀ z, z < N → f z = f x → z = x ∨ z = y := by
  obtain ⟨f1, hf1⟩ : ∃ f1 : Nat → Nat, ∀ t, f1 t = if t = x then f x + 1 else f t := ⟨_, fun t => rfl⟩
  have h1 := kC_rem hf1 N
  rw [if_pos ⟨hx, rfl⟩] at h1
  obtain ⟨y, hy, hfy⟩ := kC_pos (f := f1) (j := f x) (N := N) (by omega)
  have hyx : y ≠ x := fun e => by rw [hf1, if_pos e] at hfy; omega
  have hfy2 : f y = f x := by rw [hf1, if_neg hyx] at hfy; exact hfy
  obtain ⟨f2, hf2⟩ : ∃ f2 : Nat → Nat, ∀ t, f2 t = if t = y then f x + 1 else f1 t := ⟨_, fun t => rfl⟩
  have h2 := kC_rem hf2 N
  rw [if_pos ⟨hy, hfy⟩] at h2
  have h3 := kC_none (f := f2) (j := f x) (N := N) (by omega)
  refine ⟨y, hy, hyx, hfy2, fun z hz hfz => ?_⟩
  by_cases hzx : z = x
  · exact Or.inl hzx
  · by_cases hzy : z = y
    · exact Or.inr hzy
    · exfalso
      refine h3 z hz ?_
      rw [hf2, if_neg hzy, hf1, if_neg hzx]; exact hfz
theorem kC_key {n : Nat} {m : List Nat} {j : Nat} : ∀ {i}, i ≤ 2 * n → kC (key n m) i (2 * j) + kC (key n m) i (2 * j + 1) = kC (fun t => m.getD t 0) i j
  | 0, _ => rfl
  | i + 1, hi => by
    have ih := kC_key (n := n) (m := m) (j := j) (i := i) (by omega)
    simp only [kC]
    by_cases hin : i < n
    · rw [key_up hin]
      by_cases hj : m.getD i 0 = j
      · rw [if_pos (by omega), if_neg (by omega), if_pos hj]; omega
      · rw [if_neg (by omega), if_neg (by omega), if_neg hj]; omega
    · rw [key_lo hin (by omega)]
      by_cases hj : m.getD i 0 = j
      · rw [if_neg (by omega), if_pos (by omega), if_pos hj]; omega
      · rw [if_neg (by omega), if_neg (by omega), if_neg hj]; omega
def Two (f : Nat → Nat) (N : Nat) : Prop := ∀ x, x < N → ∃ y, y < N ∧ y ≠ x ∧ f y = f x ∧ ∀ z, z < N → f z = f x → z = x ∨ z = y
theorem two_of {n : Nat} {m : List Nat} (h : allK kPair (kC (key n m) (2 * n)) (mx m (2 * n)) = true) : Two (fun t => m.getD t 0) (2 * n) := by
  intro x hx
  have h1 := allK_true.1 h (m.getD x 0) (mx_gt hx)
  have h2 : kC (key n m) (2 * n) (2 * m.getD x 0) + kC (key n m) (2 * n) (2 * m.getD x 0 + 1) = 2 := of_decide_eq_true h1
  rw [kC_key (Nat.le_refl _)] at h2
  exact kC_two (f := fun t => m.getD t 0) hx h2

/-! what the reference joins -/
def spK (f : Nat → Nat) (i : Nat) : Nat → List Nat → List Nat
  | 0, l => l
  | k + 1, l => if f i = f k then ((spK f i k l).set i k).set k i else spK f i k l
def spJ (f : Nat → Nat) : Nat → List Nat
  | 0 => List.replicate 16 0
  | i + 1 => spK f i i (spJ f i)
theorem spK_len {f : Nat → Nat} {i : Nat} {l : List Nat} : ∀ k, (spK f i k l).length = l.length
  | 0 => rfl
  | k + 1 => by unfold spK; split <;> simp [spK_len k]
theorem spJ_len {f : Nat → Nat} : ∀ i, (spJ f i).length = 16
  | 0 => by simp [spJ]
  | i + 1 => by rw [spJ, spK_len, spJ_len i]
theorem spK_none {f : Nat → Nat} {i : Nat} {l : List Nat} : ∀ k, (∀ t, t < k → f i ≠ f t) → spK f i k l = l
  | 0, _ => rfl
  | k + 1, h => by rw [spK, if_neg (h k (by omega))]; exact spK_none k fun t ht => h t (by omega)
theorem spK_one {f : Nat → Nat} {i : Nat} {l : List Nat} {y : Nat} : ∀ k, y < k → f i = f y → (∀ t, t < k → f i = f t → t = y) → spK f i k l = (l.set i y).set y i
  | 0, h, _, _ => by omega
  | k + 1, h, h1, h2 => by
    by_cases hk : k = y
    · subst hk
      rw [spK, if_pos h1, spK_none k fun t ht e => by have := h2 t (by omega) e; omega]
    · rw [spK, if_neg (fun e => hk (h2 k (by omega) e))]
      exact spK_one k (by omega) h1 fun t ht => h2 t (by omega)
theorem spJ_at {f : Nat → Nat} {N : Nat} (hN : N ≤ 16) (h : Two f N) : ∀ I, I ≤ N → (∀ x y, x < I → y < I → x ≠ y → f x = f y → (spJ f I).getD x 0 = y) ∧ ∀ x, I ≤ x → (spJ f I).getD x 0 = 0
  | 0, _ => ⟨fun x y hx => by omega, fun x _ => by rw [spJ, List.getD_eq_getElem?_getD, List.getElem?_replicate]; split <;> rfl⟩
  | I + 1, hI => by
    obtain ⟨a1, a2⟩ := spJ_at hN h I (by omega)
    obtain ⟨p, hp1, hp2, hp3, hp4⟩ := h I (by omega)
    by_cases hpI : p < I
    · have e : spJ f (I + 1) = ((spJ f I).set I p).set p I := by
        rw [spJ]
        refine spK_one I hpI hp3.symm fun t ht e => ?_
        rcases hp4 t (by omega) e.symm with h5 | h5 <;> omega
      have hg : ∀ x, (spJ f (I + 1)).getD x 0 = if p = x then I else if I = x then p else (spJ f I).getD x 0 := by
        intro x
        rw [e, getD_set' (by rw [List.length_set, spJ_len]; omega), getD_set' (by rw [spJ_len]; omega)]
      refine ⟨fun x y hx hy hxy hf => ?_, fun x hx => ?_⟩
      · rw [hg]
        by_cases hpx : p = x
        · rw [if_pos hpx]
          subst hpx
          rcases hp4 y (by omega) (hf.symm.trans hp3) with h5 | h5
          · exact h5.symm
          · exact absurd h5.symm hxy
        · rw [if_neg hpx]
          by_cases hIx : I = x
          · rw [if_pos hIx]
            subst hIx
            rcases hp4 y (by omega) hf.symm with h5 | h5
            · exact absurd h5.symm hxy
            · exact h5.symm
          · rw [if_neg hIx]
            have hyI : y ≠ I := by
              intro e5
              rw [e5] at hf
              rcases hp4 x (by omega) hf with h5 | h5
              · exact hIx h5.symm
              · exact hpx h5.symm
            exact a1 x y (by omega) (by omega) hxy hf
      · rw [hg, if_neg (by omega), if_neg (by omega)]
        exact a2 x (by omega)
    · have e : spJ f (I + 1) = spJ f I := by
        rw [spJ]
        refine spK_none I fun t ht e => ?_
        rcases hp4 t (by omega) e.symm with h5 | h5 <;> omega
      refine ⟨fun x y hx hy hxy hf => ?_, fun x hx => by rw [e]; exact a2 x (by omega)⟩
      rw [e]
      have hne : ∀ t, t < I → f t ≠ f I := fun t ht e5 => by rcases hp4 t (by omega) e5 with h5 | h5 <;> omega
      by_cases hxI : x = I
      · subst hxI; exact absurd hf.symm (hne y (by omega))
      · by_cases hyI : y = I
        · subst hyI; exact absurd hf (hne x (by omega))
        · exact a1 x y (by omega) (by omega) hxy hf
theorem spJ_eq {n : Nat} {m : List Nat} (hn : n ≤ 4) (h : Two (fun t => m.getD t 0) (2 * n)) : spJ (fun t => m.getD t 0) (2 * n) = jD n (fw (xa n m) (2 * n)) (2 * n) := by
  have hlt : ∀ i, i < 2 * n → fw (xa n m) (2 * n) i < 2 * n := fun i hi => fw_lt (by omega) hi
  obtain ⟨a1, a2⟩ := spJ_at (by omega) h (2 * n) (Nat.le_refl _)
  refine eq_of_getD (spJ_len _) (jD_len _) fun x hx => ?_
  rw [jD_at (by omega) hlt (2 * n) (Nat.le_refl _)]
  by_cases hx2 : x < 2 * n
  · have hp := plc_lt hx2
    rw [if_pos ⟨hx2, hp⟩]
    obtain ⟨y, y1, y2, y3, y4⟩ := h x hx2
    replace y3 : m.getD y 0 = m.getD x 0 := y3
    have hxa : xa n m (plc n x) = m.getD x 0 := by unfold xa; rw [plc_inv hx2]
    obtain ⟨i', c1, c2, c3, c4, c5⟩ := fw_spec (f := xa n m) (N := 2 * n) (k := plc n x) (by omega) hp
    have hw := hlt (plc n x) hp
    have hpy := plc_lt y1
    have hxy : xa n m (plc n y) = m.getD y 0 := by unfold xa; rw [plc_inv y1]
    have hne : fw (xa n m) (2 * n) (plc n x) ≠ plc n x := by
      intro e
      have hi' : i' = 2 * n := by
        rw [c3, modN (by omega)] at e
        split at e <;> omega
      have hpp : plc n y ≠ plc n x := fun e5 => y2 (plc_inj y1 hx2 e5)
      obtain ⟨j, j1, j2, j3⟩ : ∃ j, 1 ≤ j ∧ j < 2 * n ∧ (plc n x + j) % (2 * n) = plc n y := by
        by_cases hlt2 : plc n x < plc n y
        · exact ⟨plc n y - plc n x, by omega, by omega, by rw [modN (by omega)]; split <;> omega⟩
        · exact ⟨plc n y + 2 * n - plc n x, by omega, by omega, by rw [modN (by omega)]; split <;> omega⟩
      refine c5 j j1 (by omega) ?_
      rw [j3, hxy, hxa, y3]
    have hsame := fw_same (f := xa n m) (N := 2 * n) (k := plc n x) (by omega) hp
    rw [hxa] at hsame
    have hz : m.getD (plc n (fw (xa n m) (2 * n) (plc n x))) 0 = m.getD x 0 := hsame
    rcases y4 (plc n (fw (xa n m) (2 * n) (plc n x))) (plc_lt hw) hz with h5 | h5
    · exfalso
      refine hne ?_
      have := plc_inv hw
      rw [h5] at this; exact this.symm
    · rw [h5]
      exact a1 x y hx2 y1 (fun e => y2 e.symm) y3.symm
  · rw [if_neg (fun h5 => hx2 h5.1)]
    exact a2 x (by omega)
end Go.Proofs.Ytpangmameocfmaa.VE.P
