/- Contracts of functions of the given program, for all arguments that the contract names; see each theorem. -/
import Derived.Test.YtpangmameocfmaaT36
import Derived.Test.YtpangmameocfmaaT26
set_option linter.all false
namespace Go.Proofs.Ytpangmameocfmaa.VE.P
open Go
set_option maxHeartbeats 800000
set_option maxRecDepth 100000

/-! plain: all partitions of a size, in order -/
def nx1 (k nx : Nat) : Nat := if k = nx then nx + 1 else nx
def fillL : Nat → List Nat → Nat → Nat → List (List Nat)
  | 0, m, _, _ => [m]
  | d + 1, m, i, nx => (List.range (nx + 1)).flatMap fun k => fillL d (m.set i k) (i + 1) (nx1 k nx)
def fillK (d : Nat) (m : List Nat) (i nx k : Nat) : List (List Nat) := (List.range k).flatMap fun k => fillL d (m.set i k) (i + 1) (nx1 k nx)
theorem fillK_succ {d : Nat} {m : List Nat} {i nx k : Nat} : fillK d m i nx (k + 1) = fillK d m i nx k ++ fillL d (m.set i k) (i + 1) (nx1 k nx) := by
  simp [fillK, List.range_succ]
theorem fillL_succ {d : Nat} {m : List Nat} {i nx : Nat} : fillL (d + 1) m i nx = fillK d m i nx (nx + 1) := rfl
theorem fillL_len : ∀ d m i nx, nx + d ≤ 8 → (fillL d m i nx).length ≤ 9 ^ d
  | 0, _, _, _, _ => by simp [fillL]
  | d + 1, m, i, nx, h => by
    have hk : ∀ k, k ≤ nx + 1 → (fillK d m i nx k).length ≤ k * 9 ^ d := by
      intro k
      induction k with
      | zero => intro _; simp [fillK]
      | succ k ih =>
        intro hk
        have h1 := ih (by omega)
        have h2 := fillL_len d (m.set i k) (i + 1) (nx1 k nx) (by unfold nx1; split <;> omega)
        rw [fillK_succ, List.length_append, Nat.succ_mul]
        omega
    have h1 := hk (nx + 1) (Nat.le_refl _)
    have h2 : (nx + 1) * 9 ^ d ≤ 9 * 9 ^ d := Nat.mul_le_mul_right _ (by omega)
    rw [fillL_succ, Nat.pow_succ, Nat.mul_comm]
    omega
theorem fillK_len {d : Nat} {m : List Nat} {i nx : Nat} (h : nx + (d + 1) ≤ 8) : ∀ k, k ≤ nx + 1 → (fillK d m i nx k).length + (nx + 1 - k) * 9 ^ d ≤ 9 ^ (d + 1) := by
  intro k hk
  have : ∀ k, k ≤ nx + 1 → (fillK d m i nx k).length ≤ k * 9 ^ d := by
    intro k
    induction k with
    | zero => intro _; simp [fillK]
    | succ k ih =>
      intro hk
      have h1 := ih (by omega)
      have h2 := fillL_len d (m.set i k) (i + 1) (nx1 k nx) (by unfold nx1; split <;> omega)
      rw [fillK_succ, List.length_append, Nat.succ_mul]
      omega
  have h1 := this k hk
  have h2 : (nx + 1) * 9 ^ d ≤ 9 * 9 ^ d := Nat.mul_le_mul_right _ (by omega)
  have h3 : k * 9 ^ d + (nx + 1 - k) * 9 ^ d = (nx + 1) * 9 ^ d := by rw [← Nat.add_mul]; congr 1; omega
  rw [Nat.pow_succ, Nat.mul_comm (9 ^ d)]
  omega
/-- What is so of each of them. -/
theorem isPL_end {n : Nat} {m : List Nat} {nx : Nat} : ∀ d i, 2 * n ≤ i → (∀ j, i ≤ j → m.getD j 0 = 0) → isPL n m d i nx = true
  | 0, _, _, _ => rfl
  | d + 1, i, hi, hz => by
    unfold isPL
    rw [if_neg (by rw [hz i (Nat.le_refl _)]; simp), if_neg (by omega), if_neg (by omega)]
    exact isPL_end d (i + 1) (by omega) fun j hj => hz j (by omega)
structure FillOK (n : Nat) (m : List Nat) (i nx : Nat) : Prop where
  len : m.length = 8
  zero : ∀ j, i ≤ j → m.getD j 0 = 0
  run : ∀ m' : List Nat, (∀ j, j < i → m'.getD j 0 = m.getD j 0) → isPL n m' 8 0 0 = isPL n m' (8 - i) i nx
theorem FillOK.init {n : Nat} : FillOK n (List.replicate 8 0) 0 0 :=
  ⟨by simp, fun j _ => by rw [List.getD_eq_getElem?_getD, List.getElem?_replicate]; split <;> simp, fun _ _ => rfl⟩
theorem FillOK.step {n : Nat} {m : List Nat} {i nx k : Nat} (h : FillOK n m i nx) (hi : i < 2 * n) (hn : n ≤ 4) (hk : k ≤ nx) : FillOK n (m.set i k) (i + 1) (nx1 k nx) := by
  have hl := h.len
  refine ⟨by simpa using hl, fun j hj => ?_, fun m' hm => ?_⟩
  · rw [getD_set' (by omega), if_neg (by omega)]; exact h.zero j (by omega)
  · rw [h.run m' fun j hj => by rw [hm j (by omega), getD_set' (by omega), if_neg (by omega)]]
    have hk1 : m'.getD i 0 = k := by rw [hm i (by omega), getD_set' (by omega), if_pos rfl]
    rw [show 8 - i = (8 - (i + 1)) + 1 from by omega]
    rw [isPL, if_neg (by omega), if_neg (by omega), hk1]
    unfold nx1
    by_cases h2 : k = nx
    · rw [if_pos ⟨by omega, h2⟩, if_pos h2]
    · rw [if_neg (by intro h; exact h2 h.2), if_neg h2]
theorem FillOK.leaf {n : Nat} {m : List Nat} {i nx : Nat} (h : FillOK n m i nx) (hi : i = 2 * n) (hn1 : 1 ≤ n) (hn : n ≤ 4) : isPi n m = true := by
  rw [← isP_eq _ m h.len]
  unfold isP
  rw [decide_eq_true (by omega), Bool.true_and, h.run m fun _ _ => rfl]
  exact isPL_end _ _ (by omega) h.zero
theorem FillOK.all {n : Nat} (hn1 : 1 ≤ n) (hn : n ≤ 4) : ∀ d m i nx, FillOK n m i nx → i + d = 2 * n → ∀ m' ∈ fillL d m i nx, m'.length = 8 ∧ isPi n m' = true
  | 0, m, i, nx, h, hi, m', hm => by
    simp only [fillL, List.mem_singleton] at hm
    subst hm
    exact ⟨h.len, h.leaf (by omega) hn1 hn⟩
  | d + 1, m, i, nx, h, hi, m', hm => by
    simp only [fillL, List.mem_flatMap, List.mem_range] at hm
    obtain ⟨k, hk, hm⟩ := hm
    exact FillOK.all hn1 hn d _ _ _ (h.step (by omega) hn (by omega)) (by omega) m' hm
/-- The row of some partitions of a size. -/
def rPn (n : Nat) (l : List (List Nat)) : List Value := rowP (l.map fun m => ((n : Int), m))
theorem rPn_append {n : Nat} {a b : List (List Nat)} : rPn n (a ++ b) = rPn n a ++ rPn n b := by simp [rPn, rowP_append]
theorem rPn_one {n : Nat} {m : List Nat} : rPn n [m] = pcl n m := by simp [rPn, rowP]
theorem rPn_at {n : Nat} {l : List (List Nat)} (hl : ∀ m ∈ l, m.length = 8) {i : Nat} {m : List Nat} (h : l[i]? = some m) : ((rPn n l).drop (i * 9)).take 9 = pcl (n : Int) m :=
  rowP_at (N := 8) (l := l.map fun m => ((n : Int), m)) (i := i) (p := ((n : Int), m)) (fun p hp => by
    obtain ⟨k, hk, rfl⟩ := List.mem_map.1 hp; exact hl k hk) (by simp [h])
/-- How many of each kind. -/
noncomputable def cnK (n : Nat) (l : List (List Nat)) (j : Nat) : Nat := l.countP fun m => KD n m j
theorem cnK_append {n : Nat} {a b : List (List Nat)} {j : Nat} : cnK n (a ++ b) j = cnK n a j + cnK n b j := List.countP_append
theorem cnK_le {n : Nat} {l : List (List Nat)} {j : Nat} : cnK n l j ≤ l.length := List.countP_le_length
theorem cnK_one {n : Nat} {m : List Nat} {j : Nat} : cnK n [m] j = if KD n m j then 1 else 0 := by
  simp [cnK, List.countP_cons]
end Go.Proofs.Ytpangmameocfmaa.VE.P
