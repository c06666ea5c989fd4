/- Contracts of functions of the given program, for all arguments that the contract names; see each theorem. -/
import Derived.Test.YtimigbgpldjefaaEd
set_option linter.all false
namespace Go.Proofs.Ytimigbgpldjefaa.VE
open Go
set_option maxHeartbeats 800000
set_option maxRecDepth 100000

/-! plain: ranks -/
def piv (A : Nat → Nat → Int) (c : Nat) : Nat → Nat → Nat
  | 0, i => i
  | d + 1, i => if A i c = 0 then piv A c d (i + 1) else i
theorem piv_ge {A : Nat → Nat → Int} {c : Nat} : ∀ d i, i ≤ piv A c d i ∧ piv A c d i ≤ i + d
  | 0, i => ⟨Nat.le_refl i, Nat.le_refl i⟩
  | d + 1, i => by
    unfold piv; split
    · have := piv_ge (A := A) (c := c) d (i + 1); omega
    · omega
theorem piv_ne {A : Nat → Nat → Int} {c : Nat} : ∀ {d i}, piv A c d i < i + d → A (piv A c d i) c ≠ 0
  | 0, i, h => by simp [piv] at h
  | d + 1, i, h => by
    unfold piv at h ⊢
    split
    · rename_i e
      rw [if_pos e] at h
      exact piv_ne (by omega)
    · rename_i e; exact e
theorem piv_congr {A B : Nat → Nat → Int} {c : Nat} : ∀ {d i}, (∀ j, i ≤ j → j < i + d → A j c = B j c) → piv A c d i = piv B c d i
  | 0, _, _ => rfl
  | d + 1, i, h => by
    unfold piv
    rw [h i (Nat.le_refl i) (by omega)]
    split
    · exact piv_congr fun j h1 h2 => h j (by omega) (by omega)
    · rfl
def swp (a b i : Nat) : Nat := if i = a then b else if i = b then a else i
theorem swp_lt {a b i W : Nat} (ha : a < W) (hb : b < W) (hi : i < W) : swp a b i < W := by
  unfold swp; split
  · exact hb
  · split
    · exact ha
    · exact hi
theorem swp_swp {a b i : Nat} : swp a b (swp a b i) = i := by
  unfold swp
  by_cases h1 : i = a
  · rw [if_pos h1]
    by_cases h2 : b = a
    · rw [if_pos h2]; omega
    · rw [if_neg h2, if_pos rfl]; exact h1.symm
  · rw [if_neg h1]
    by_cases h2 : i = b
    · rw [if_pos h2, if_pos rfl]; exact h2.symm
    · rw [if_neg h2, if_neg h1, if_neg h2]
theorem swp_inj {a b i j : Nat} (h : swp a b i = swp a b j) : i = j := by rw [← swp_swp (a := a) (b := b) (i := i), h, swp_swp]
theorem swp_a {a b : Nat} : swp a b a = b := if_pos rfl
theorem swp_b {a b : Nat} : swp a b b = a := by
  unfold swp; split
  · assumption
  · rw [if_pos rfl]
theorem swp_self {a i : Nat} : swp a a i = i := by
  unfold swp; split
  · omega
  · rfl
theorem swp_comm {a b i : Nat} : swp a b i = swp b a i := by
  unfold swp
  by_cases h1 : i = a
  · rw [if_pos h1]
    by_cases h2 : i = b
    · rw [if_pos h2]; omega
    · rw [if_neg h2, if_pos h1]
  · rw [if_neg h1]
    by_cases h2 : i = b
    · rw [if_pos h2, if_pos h2]
    · rw [if_neg h2, if_neg h2, if_neg h1]
def swA (A : Nat → Nat → Int) (a b : Nat) : Nat → Nat → Int := fun i => A (swp a b i)
def red (P : Int) (r c : Nat) (v : Int) (A : Nat → Nat → Int) : Nat → Nat → Int := fun i j => (A i j - A i c * (A r j * v % P)) % P
/-- The rank, and the determinant (as the reference counts it). -/
def ekF (P W : Nat) (inv : Nat → Nat) : Nat → Nat → Nat → Int → (Nat → Nat → Int) → Nat × Int
  | 0, _, r, det, _ => (r, det)
  | d + 1, c, r, det, A =>
    if piv A c (W - r) r = W then ekF P W inv d (c + 1) r 0 A
    else ekF P W inv d (c + 1) (r + 1) ((if piv A c (W - r) r = r then det else -det) * A (piv A c (W - r) r) c % P) (red P r c (inv (A (piv A c (W - r) r) c).toNat) (swA A r (piv A c (W - r) r)))
theorem ekF_s1 {P W : Nat} {inv : Nat → Nat} {d c r : Nat} {det : Int} {A : Nat → Nat → Int} (h : piv A c (W - r) r = W) : ekF P W inv (d + 1) c r det A = ekF P W inv d (c + 1) r 0 A := by rw [ekF, if_pos h]
theorem ekF_s2 {P W : Nat} {inv : Nat → Nat} {d c r b : Nat} {det : Int} {A : Nat → Nat → Int} (h : piv A c (W - r) r = b) (hb : b ≠ W) : ekF P W inv (d + 1) c r det A =
    ekF P W inv d (c + 1) (r + 1) ((if b = r then det else -det) * A b c % P) (red P r c (inv (A b c).toNat) (swA A r b)) := by rw [ekF, h, if_neg hb]
/-- Numbers below p in all cells. -/
def bnd (P : Int) (W : Nat) (A : Nat → Nat → Int) : Prop := ∀ i j, i < W → j < W → 0 ≤ A i j ∧ A i j < P
theorem bnd_sw {P : Int} {W a b : Nat} {A : Nat → Nat → Int} (h : bnd P W A) (ha : a < W) (hb : b < W) : bnd P W (swA A a b) := fun i j hi hj => h _ _ (swp_lt ha hb hi) hj
theorem red_congr {P : Int} {W r c : Nat} {v : Int} {A B : Nat → Nat → Int} (hc : c < W) (h : ∀ i j, r ≤ i → i < W → j < W → A i j = B i j) (hr : r < W) : ∀ i j, r + 1 ≤ i → i < W → j < W → red P r c v A i j = red P r c v B i j := by
  intro i j h1 h2 h3
  simp only [red]
  rw [h i j (by omega) h2 h3, h i c (by omega) h2 hc, h r j (Nat.le_refl r) hr h3]
theorem swA_congr {W r b : Nat} {A B : Nat → Nat → Int} (hb : r ≤ b ∧ b < W) (h : ∀ i j, r ≤ i → i < W → j < W → A i j = B i j) : ∀ i j, r ≤ i → i < W → j < W → swA A r b i j = swA B r b i j := by
  intro i j h1 h2 h3
  simp only [swA]
  have h4 := swp_lt (show r < W by omega) hb.2 h2
  refine h _ _ ?_ h4 h3
  unfold swp; split
  · exact hb.1
  · split
    · exact Nat.le_refl r
    · exact h1
theorem ekF_congr {P W : Nat} {inv : Nat → Nat} : ∀ {d c r : Nat} {det : Int} {A B : Nat → Nat → Int}, r ≤ W → c + d ≤ W → (∀ i j, r ≤ i → i < W → j < W → A i j = B i j) → ekF P W inv d c r det A = ekF P W inv d c r det B
  | 0, _, _, _, _, _, _, _, _ => rfl
  | d + 1, c, r, det, A, B, hr, hc, h => by
    have hp : piv A c (W - r) r = piv B c (W - r) r := piv_congr fun j h1 h2 => h j c h1 (by omega) (by omega)
    have hg := piv_ge (A := B) (c := c) (W - r) r
    unfold ekF
    rw [hp]
    by_cases e : piv B c (W - r) r = W
    · rw [if_pos e, if_pos e]; exact ekF_congr hr (by omega) h
    · rw [if_neg e, if_neg e, h _ c hg.1 (by omega) (by omega)]
      exact ekF_congr (by omega) (by omega) (red_congr (by omega) (swA_congr ⟨hg.1, by omega⟩ h) (by omega))
theorem ekF_fst {P W : Nat} {inv : Nat → Nat} : ∀ {d c r : Nat} {det det' : Int} {A : Nat → Nat → Int}, (ekF P W inv d c r det A).1 = (ekF P W inv d c r det' A).1
  | 0, _, _, _, _, _ => rfl
  | d + 1, c, r, det, det', A => by
    unfold ekF
    split
    · rfl
    · exact ekF_fst
theorem ekF_full {P W : Nat} {inv : Nat → Nat} : ∀ {d c : Nat} {det : Int} {A : Nat → Nat → Int}, (ekF P W inv d c W det A).1 = W
  | 0, _, _, _ => rfl
  | d + 1, c, det, A => by
    have hg := piv_ge (A := A) (c := c) (W - W) W
    unfold ekF
    rw [if_pos (by omega)]
    exact ekF_full
theorem red_zero {P : Int} {r c i j : Nat} {v : Int} {A : Nat → Nat → Int} (h : A i c = 0) (hb : 0 ≤ A i j ∧ A i j < P) : red P r c v A i j = A i j := by
  simp only [red, h, Int.zero_mul, Int.sub_zero]; exact Int.emod_eq_of_lt hb.1 hb.2
theorem red_alt {P : Int} {r c i j : Nat} {v : Int} {A : Nat → Nat → Int} : red P r c v A i j = (A i j - (A i c * v % P) * A r j) % P := by
  simp only [red]
  rw [Int.sub_emod, Int.sub_emod (A i j) (A i c * v % P * A r j)]
  congr 2
  rw [Int.mul_emod, Int.emod_emod, ← Int.mul_emod, Int.mul_emod (A i c * v % P), Int.emod_emod, ← Int.mul_emod]
  congr 1
  rw [Int.mul_comm (A r j) v, Int.mul_assoc]
theorem red_alt0 {P : Int} {r c i j : Nat} {v : Int} {A : Nat → Nat → Int} (h : A i c * v % P = 0) (hb : 0 ≤ A i j ∧ A i j < P) : red P r c v A i j = A i j := by
  rw [red_alt, h, Int.zero_mul, Int.sub_zero]; exact Int.emod_eq_of_lt hb.1 hb.2
theorem red_bd {P : Int} (hP : 0 < P) {r c i j : Nat} {v : Int} {A : Nat → Nat → Int} : 0 ≤ red P r c v A i j ∧ red P r c v A i j < P := ⟨Int.emod_nonneg _ (by omega), Int.emod_lt_of_pos _ hP⟩
end Go.Proofs.Ytimigbgpldjefaa.VE
