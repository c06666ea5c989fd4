/- Contracts of functions of the given program, for all arguments that the contract names; see each theorem. -/
import Derived.Test.YtpangmameocfmaaT4
set_option linter.all false
namespace Go.Proofs.Ytpangmameocfmaa.VE.P
open Go

theorem nmL_keep {g : Nat → Int} {j : Nat} : ∀ (d i : Nat) (ks : List Int) (out : List Nat), j < i → i + d ≤ out.length → (nmL g d i ks out).getD j 0 = out.getD j 0
  | 0, _, _, _, _, _ => rfl
  | d + 1, i, ks, out, h, hl => by
    simp only [nmL]
    split
    · rw [nmL_keep d (i + 1) _ _ (by omega) (by simp; omega), getD_set' (by omega), if_neg (by omega)]
    · rw [nmL_keep d (i + 1) _ _ (by omega) (by simp; omega), getD_set' (by omega), if_neg (by omega)]

/-- 0, 1, .. as ints. -/
def rng : Nat → Nat → List Int
  | _, 0 => []
  | a, n + 1 => (a : Int) :: rng (a + 1) n
theorem rng_snoc : ∀ (n a : Nat), rng a (n + 1) = rng a n ++ [((a + n : Nat) : Int)]
  | 0, a => rfl
  | n + 1, a => by
    rw [rng, rng_snoc n (a + 1), rng, show a + 1 + n = a + (n + 1) from by omega]; rfl
theorem rng_len : ∀ (n a : Nat), (rng a n).length = n
  | 0, _ => rfl
  | n + 1, a => by simp [rng, rng_len n]
theorem nmF_rng {x : Nat} : ∀ (n a j : Nat), a ≤ x → nmF (x : Int) (rng a n) j = if x < a + n then some (j + (x - a)) else none
  | 0, a, j, h => by simp [rng, nmF]; omega
  | n + 1, a, j, h => by
    simp only [rng, nmF]
    by_cases hx : x = a
    · subst hx; simp
    · have : ¬ (x : Int) = (a : Int) := by omega
      rw [if_neg this, nmF_rng n (a + 1) (j + 1) (by omega)]
      by_cases hlt : x < a + (n + 1)
      · rw [if_pos hlt, if_pos (by omega)]; congr 1; omega
      · rw [if_neg hlt, if_neg (by omega)]

/-- Behind the last. -/
theorem isPL_tail {s : Nat} {m out : List Nat} (hm : m.length = 8) (ho : out.length = 8) (nx : Nat) : ∀ (d i : Nat), i + d = 8 → 2 * s ≤ i → (∀ j, j < i → out.getD j 0 = m.getD j 0) → (∀ j, i ≤ j → out.getD j 0 = 0) → isPL s m d i nx = decide (m = out)
  | 0, i, hd, hi, h1, h2 => by
    rw [isPL, decide_eq_true]
    exact eq_of_getD hm ho fun j hj => (h1 j (by omega)).symm
  | d + 1, i, hd, hi, h1, h2 => by
    rw [isPL]
    by_cases h0 : m.getD i 0 = 0
    · rw [if_neg (by rintro ⟨_, h⟩; exact h h0), if_neg (by rintro ⟨h, _⟩; omega), if_neg (by rintro ⟨h, _⟩; omega)]
      refine isPL_tail hm ho nx d (i + 1) (by omega) (by omega) (fun j hj => ?_) (fun j hj => h2 j (by omega))
      by_cases hji : j = i
      · subst hji; rw [h0]; exact h2 j (Nat.le_refl _)
      · exact h1 j (by omega)
    · rw [if_pos ⟨by omega, h0⟩, decide_eq_false]
      intro e
      exact h0 (by rw [e]; exact h2 i (Nat.le_refl _))

theorem isPL_eq {n : Nat} {m : List Nat} (hm : m.length = 8) (hn : n ≤ 4) : ∀ (d i nx : Nat) (out : List Nat), out.length = 8 → i + d = 2 * n → nx ≤ i → (∀ j, j < i → out.getD j 0 = m.getD j 0) → (∀ j, i ≤ j → out.getD j 0 = 0) →
    isPL n m (8 - i) i nx = decide (m = nmL (fun i => ((m.getD i 0 : Nat) : Int)) d i (rng 0 nx) out)
  | 0, i, nx, out, ho, hd, hnx, h1, h2 => by
    rw [nmL]
    exact isPL_tail hm ho nx _ i (by omega) (by omega) h1 h2
  | d + 1, i, nx, out, ho, hd, hnx, h1, h2 => by
    obtain ⟨d', hd'⟩ : ∃ d', 8 - i = d' + 1 := ⟨7 - i, by omega⟩
    have hd2 : 8 - (i + 1) = d' := by omega
    rw [hd', isPL, nmL, if_neg (by rintro ⟨h, _⟩; omega), nmF_rng nx 0 0 (Nat.zero_le _)]
    have hlt : (i : Int) < 2 * (n : Int) := by omega
    rcases Nat.lt_trichotomy (m.getD i 0) nx with h | h | h
    · rw [if_neg (by rintro ⟨_, h⟩; omega), if_neg (by rintro ⟨_, h⟩; omega), if_pos (by omega)]
      simp only [Nat.zero_add, Nat.sub_zero]
      rw [← hd2]
      refine isPL_eq hm hn d (i + 1) nx _ (by simpa using ho) (by omega) (by omega) (fun j hj => ?_) (fun j hj => ?_)
      · rw [getD_set' (by omega)]
        by_cases hij : i = j
        · subst hij; rw [if_pos rfl]
        · rw [if_neg hij]; exact h1 j (by omega)
      · rw [getD_set' (by omega), if_neg (by omega)]; exact h2 j (by omega)
    · rw [if_neg (by rintro ⟨_, h⟩; omega), if_pos ⟨hlt, h⟩, if_neg (by omega)]
      simp only []
      rw [← hd2, h, rng_len, show rng 0 nx ++ [(nx : Int)] = rng 0 (nx + 1) from by rw [rng_snoc, Nat.zero_add]]
      refine isPL_eq hm hn d (i + 1) (nx + 1) _ (by simpa using ho) (by omega) (by omega) (fun j hj => ?_) (fun j hj => ?_)
      · rw [getD_set' (by omega)]
        by_cases hij : i = j
        · subst hij; rw [if_pos rfl, h]
        · rw [if_neg hij]; exact h1 j (by omega)
      · rw [getD_set' (by omega), if_neg (by omega)]; exact h2 j (by omega)
    · rw [if_pos ⟨hlt, h⟩, if_neg (by omega)]
      symm
      rw [decide_eq_false]
      intro e
      have := congrArg (fun l : List Nat => l.getD i 0) e
      simp only [] at this
      rw [nmL_keep d (i + 1) _ _ (by omega) (by simp; omega), getD_set' (by omega), if_pos rfl, rng_len] at this
      omega

theorem isP_eq (s : Int) (m : List Nat) (hm : m.length = 8) : isP s m = isPi s m := by
  unfold isP isPi
  by_cases h : 1 ≤ s ∧ s ≤ 4
  · obtain ⟨n, rfl⟩ : ∃ n : Nat, s = n := ⟨s.toNat, by omega⟩
    rw [decide_eq_true h, Bool.true_and, Bool.true_and, Int.toNat_natCast]
    exact isPL_eq hm (by omega) (2 * n) 0 0 (List.replicate 8 0) (by simp) (by omega) (Nat.le_refl _) (fun j hj => by omega) (fun j _ => by
      rw [List.getD_eq_getElem?_getD, List.getElem?_replicate]; split <;> rfl)
  · rw [decide_eq_false h]; rfl

/-- Names are small. -/
theorem nmL_lt {g : Nat → Int} {j B : Nat} : ∀ (d i : Nat) (ks : List Int) (out : List Nat), ks.length + d ≤ B → (∀ j, out.getD j 0 < B) → out.length = 8 → i + d ≤ 8 → (nmL g d i ks out).getD j 0 < B
  | 0, _, _, out, _, h, _, _ => h j
  | d + 1, i, ks, out, hk, h, hl, hi => by
    simp only [nmL]
    split
    · rename_i x hx
      have := nmF_lt hx
      refine nmL_lt d (i + 1) _ _ (by omega) (fun j => ?_) (by simpa using hl) (by omega)
      rw [getD_set' (by omega)]; split
      · omega
      · exact h j
    · refine nmL_lt d (i + 1) _ _ (by simp; omega) (fun j => ?_) (by simpa using hl) (by omega)
      rw [getD_set' (by omega)]; split
      · omega
      · exact h j
theorem isPi_lt {s : Int} {m : List Nat} (h : isPi s m = true) (j : Nat) : m.getD j 0 < 8 := by
  unfold isPi at h
  simp only [Bool.and_eq_true, decide_eq_true_eq] at h
  obtain ⟨h1, h2⟩ := h
  rw [h2]
  have hs : 2 * s.toNat ≤ 8 := by omega
  exact nmL_lt _ 0 [] _ (by simp; omega) (fun j => by rw [List.getD_eq_getElem?_getD, List.getElem?_replicate]; split <;> simp) (by simp) (by omega)
end Go.Proofs.Ytpangmameocfmaa.VE.P
