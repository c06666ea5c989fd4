/- Contracts of functions of the given program, for all arguments that the contract names; see each theorem. -/
import Derived.Test.YtcibbadioijmcaaU9
set_option linter.all false
namespace Go.Proofs.Ytcibbadioijmcaa.VE
open Go
set_option maxHeartbeats 800000
set_option maxRecDepth 100000

/-! rows of terms: a diagram and a factor -/
abbrev Tm := Int × List Nat × Int
def tmC (t : Tm) : List Value := pcl t.1 t.2.1 ++ [.int .i64 t.2.2]
abbrev tmV (t : Tm) : V := .raw (.agg (tmC t).toArray)
def rowT (t : Nat → Tm) : Nat → List Value
  | 0 => []
  | N + 1 => rowT t N ++ tmC (t N)
def okTs (t : Nat → Tm) (N : Nat) : Prop := ∀ i, i < N → (t i).2.1.length = 16
def okTb (t : Nat → Tm) (N : Nat) : Prop := ∀ i, i < N → ∀ x ∈ (t i).2.1, x < 256
abbrev tm0 : Tm := (0, List.replicate 16 0, 0)
theorem tmC_len {t : Tm} (h : t.2.1.length = 16) : (tmC t).length = 18 := by simp [tmC, pcl_len h]
theorem tmC_all {t : Tm} (h : t.2.1.length = 16) : ((tmC t).drop 0).take 18 = tmC t := by rw [List.drop_zero, List.take_of_length_le (by rw [tmC_len h]; exact Nat.le_refl _)]
theorem tmC_dia {t : Tm} (h : t.2.1.length = 16) : ((tmC t).drop 0).take 17 = pcl t.1 t.2.1 := by
  have := pcl_len (s := t.1) h
  rw [List.drop_zero, tmC, List.take_append_of_le_length (by omega), List.take_of_length_le (by omega)]
theorem tmC_fac {t : Tm} (h : t.2.1.length = 16) : (tmC t)[17]? = some (.int .i64 t.2.2) := by
  have := pcl_len (s := t.1) h
  rw [tmC, List.getElem?_append_right (by omega), this]; rfl
theorem tmC_at {t : Tm} {i : Nat} (h : t.2.1.length = 16) (hi : i < 16) : (tmC t)[1 + i]? = some (.int .u8 ((t.2.1.getD i 0 : Nat) : Int)) := by
  rw [tmC, List.getElem?_append_left (by rw [pcl_len h]; omega)]; exact pcl_at (by omega)
theorem tmC_ones {t : Tm} : ones (tmC t) := by
  intro u hu
  rcases List.mem_append.1 hu with h | h
  · exact pcl_ones u h
  · simp at h; subst h; rfl
theorem tmC_fset {s : Int} {m : List Nat} {a b : Int} (h : m.length = 16) : (tmC (s, m, a)).set 17 (.int .i64 b) = tmC (s, m, b) := by
  have := pcl_len (s := s) h
  simp only [tmC]
  rw [List.set_append_right _ _ (by omega), this]; rfl
theorem tmC_sd {s s' : Int} {m m' : List Nat} {a : Int} (h : m.length = 16) : (tmC (s, m, a)).take 0 ++ pcl s' m' ++ (tmC (s, m, a)).drop (0 + 17) = tmC (s', m', a) := by
  have := pcl_len (s := s) h
  simp only [tmC, List.take_zero, List.nil_append, Nat.zero_add]
  rw [List.drop_append_of_le_length (by omega), List.drop_of_length_le (by omega), List.nil_append]
theorem okTs.succ {t : Nat → Tm} {N : Nat} (h : okTs t (N + 1)) : okTs t N := fun i hi => h i (by omega)
theorem rowT_len {t : Nat → Tm} : ∀ {N : Nat}, okTs t N → (rowT t N).length = N * 18
  | 0, _ => rfl
  | N + 1, h => by rw [rowT, List.length_append, rowT_len h.succ, tmC_len (h N (by omega))]; omega
theorem rowT_at {t : Nat → Tm} : ∀ {N k : Nat}, okTs t N → k < N → ((rowT t N).drop (k * 18)).take 18 = tmC (t k)
  | 0, _, _, h => by omega
  | N + 1, k, h, hk => by
    have hl := rowT_len h.succ
    by_cases e : k = N
    · subst e
      have := tmC_len (h k (by omega))
      rw [rowT, ← hl, List.drop_append_of_le_length (Nat.le_refl _), List.drop_of_length_le (Nat.le_refl _), List.nil_append, List.take_of_length_le (by omega)]
    · rw [rowT, List.drop_append_of_le_length (by omega), List.take_append_of_le_length (by rw [List.length_drop]; omega)]
      exact rowT_at h.succ (by omega)
theorem rowT_dia {t : Nat → Tm} {N k : Nat} (h : okTs t N) (hk : k < N) : ((rowT t N).drop (k * 18)).take 17 = pcl (t k).1 (t k).2.1 := by
  have h1 := rowT_at h hk
  have h2 := tmC_dia (h k hk)
  rw [← h1, List.drop_zero, List.take_take] at h2
  exact h2
theorem rowT_cell {t : Nat → Tm} {N k j : Nat} {v : Value} (h : okTs t N) (hk : k < N) (hj : j < 18) (hv : (tmC (t k))[j]? = some v) : (rowT t N)[k * 18 + j]? = some v := by
  rw [← rowT_at h hk, List.getElem?_take, if_pos hj, List.getElem?_drop] at hv
  exact hv
theorem rowT_fac {t : Nat → Tm} {N k : Nat} (h : okTs t N) (hk : k < N) : (rowT t N)[k * 18 + 17]? = some (.int .i64 (t k).2.2) := rowT_cell h hk (by omega) (tmC_fac (h k hk))
theorem rowT_size {t : Nat → Tm} {N k : Nat} (h : okTs t N) (hk : k < N) : (rowT t N)[k * 18]? = some (.int .i64 (t k).1) := rowT_cell (j := 0) h hk (by omega) rfl
theorem rowT_mate {t : Nat → Tm} {N k i : Nat} (h : okTs t N) (hk : k < N) (hi : i < 16) : (rowT t N)[k * 18 + (1 + i)]? = some (.int .u8 (((t k).2.1.getD i 0 : Nat) : Int)) := rowT_cell h hk (by omega) (tmC_at (h k hk) hi)
theorem rowT_congr {t u : Nat → Tm} : ∀ {N : Nat}, (∀ j, j < N → t j = u j) → rowT t N = rowT u N
  | 0, _ => rfl
  | N + 1, h => by rw [rowT, rowT, h N (by omega), rowT_congr fun j hj => h j (by omega)]
theorem rowT_splice {t : Nat → Tm} {x : Tm} : ∀ {N k : Nat}, okTs t N → k < N → (rowT t N).take (k * 18) ++ tmC x ++ (rowT t N).drop (k * 18 + 18) = rowT (fun j => if j = k then x else t j) N
  | 0, _, _, h => by omega
  | N + 1, k, h, hk => by
    have hl := rowT_len h.succ
    have hN := tmC_len (h N (by omega))
    by_cases e : k = N
    · subst e
      rw [rowT, rowT, if_pos rfl, List.take_append_of_le_length (by omega), List.take_of_length_le (by omega), List.drop_of_length_le (by rw [List.length_append]; omega), List.append_nil]
      rw [rowT_congr (t := t) (u := fun j => if j = k then x else t j) fun j hj => by rw [if_neg (by omega)]]
    · rw [rowT, rowT, if_neg (by omega), List.take_append_of_le_length (by omega), List.drop_append_of_le_length (by omega), ← List.append_assoc, rowT_splice h.succ (by omega)]
theorem rowT_ones {t : Nat → Tm} : ∀ {N : Nat}, ones (rowT t N)
  | 0 => fun u hu => by simp [rowT] at hu
  | N + 1 => fun u hu => by
    rcases List.mem_append.1 hu with h | h
    · exact rowT_ones u h
    · exact tmC_ones u h
end Go.Proofs.Ytcibbadioijmcaa.VE
