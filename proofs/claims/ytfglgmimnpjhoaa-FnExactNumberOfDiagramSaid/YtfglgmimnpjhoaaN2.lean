/- Contracts of functions of the given program, for all arguments that the contract names; see each theorem. -/
import Derived.Test.YtfglgmimnpjhoaaN1
import Derived.Test.YtfglgmimnpjhoaaQ1
set_option linter.all false
namespace Go.Proofs.Ytfglgmimnpjhoaa.VE
open Go
set_option maxHeartbeats 800000
set_option maxRecDepth 100000

/-! plain: the open brackets, and the place of a text -/
def opc (q : Nat → Nat) (k : Nat) : Nat := (List.range k).countP fun i => decide (k ≤ q i)
theorem cnt_or {p : Nat → Bool} {c : Nat} (hc : p c = false) : ∀ K, ((List.range K).countP fun i => p i || decide (i = c)) = (List.range K).countP p + if c < K then 1 else 0
  | 0 => by simp
  | K + 1 => by
    have ih := cnt_or hc K
    rw [List.range_succ, List.countP_append, List.countP_append, ih]
    simp only [List.countP_cons, List.countP_nil, Nat.zero_add]
    by_cases h1 : K = c
    · subst h1
      simp [hc]
    · have e : (p K || decide (K = c)) = p K := by simp [h1]
      rw [e]
      by_cases h2 : c < K
      · rw [if_pos h2, if_pos (show c < K + 1 by omega)]; omega
      · rw [if_neg h2, if_neg (show ¬ c < K + 1 by omega)]; omega
section
variable {N : Nat} {q : Nat → Nat} (hq : ∀ j, j < N → q j < N ∧ q j ≠ j ∧ q (q j) = j)
include hq
theorem opc_up {k : Nat} (hk : k < N) (h : k < q k) : opc q (k + 1) = opc q k + 1 := by
  unfold opc
  rw [List.range_succ, List.countP_append]
  have e1 : (List.range k).countP (fun i => decide (k + 1 ≤ q i)) = (List.range k).countP (fun i => decide (k ≤ q i)) := by
    refine List.countP_congr fun i hi => ?_
    have hi := List.mem_range.1 hi
    have h1 := hq i (by omega)
    simp only [decide_eq_true_eq]
    refine ⟨fun h2 => by omega, fun h2 => ?_⟩
    rcases Nat.eq_or_lt_of_le h2 with h3 | h3
    · exfalso
      have := h1.2.2
      rw [← h3] at this
      omega
    · exact h3
  rw [e1]
  simp only [List.countP_cons, List.countP_nil, Nat.zero_add]
  rw [if_pos (decide_eq_true (show k + 1 ≤ q k from h))]
theorem opc_down {k : Nat} (hk : k < N) (h : ¬ k < q k) : opc q (k + 1) + 1 = opc q k := by
  have hk1 := hq k hk
  have hlt : q k < k := by omega
  unfold opc
  rw [List.range_succ, List.countP_append]
  have e1 : (List.range k).countP (fun i => decide (k ≤ q i)) = (List.range k).countP fun i => decide (k + 1 ≤ q i) || decide (i = q k) := by
    refine List.countP_congr fun i hi => ?_
    have hi := List.mem_range.1 hi
    have h1 := hq i (by omega)
    simp only [decide_eq_true_eq, Bool.or_eq_true]
    refine ⟨fun h2 => ?_, fun h2 => ?_⟩
    · rcases Nat.eq_or_lt_of_le h2 with h3 | h3
      · right
        have := h1.2.2
        rw [← h3] at this
        exact this.symm
      · exact .inl h3
    · rcases h2 with h2 | h2
      · omega
      · subst h2; omega
  rw [e1, cnt_or (p := fun i => decide (k + 1 ≤ q i)) (by rw [hk1.2.2]; exact decide_eq_false (by omega)), if_pos hlt]
  simp only [List.countP_cons, List.countP_nil, Nat.zero_add]
  rw [if_neg (by simp; omega)]
theorem opc_end : opc q N = 0 := by
  unfold opc
  rw [List.countP_eq_zero]
  intro i hi
  have := hq i (List.mem_range.1 hi)
  simp; omega
theorem opc_le : ∀ d k, k + d = N → opc q k ≤ d
  | 0, k, h => by
    obtain rfl : k = N := by omega
    rw [opc_end hq]; omega
  | d + 1, k, h => by
    have ih := opc_le d (k + 1) (by omega)
    by_cases hk : k < q k
    · have := opc_up hq (k := k) (by omega) hk; omega
    · have := opc_down hq (k := k) (by omega) hk; omega
end
/-- How many texts come before. -/
def rkF (q : Nat → Nat) : Nat → Nat → Nat → Nat
  | 0, _, _ => 0
  | d + 1, k, o => if k < q k then rkF q d (k + 1) (o + 1) else (if o < d + 1 then wy d (o + 1) else 0) + rkF q d (k + 1) (o - 1)
theorem brB_up {q : Nat → Nat} {k : Nat} (h : k < q k) : brB q k ++ bO = brB q (k + 1) := by
  apply ByteArray.ext
  apply Array.ext'
  simp [brB, brL, bO, List.range_succ, h]
theorem brB_down {q : Nat → Nat} {k : Nat} (h : ¬ k < q k) : brB q k ++ bC = brB q (k + 1) := by
  apply ByteArray.ext
  apply Array.ext'
  simp [brB, brL, bC, List.range_succ, h]
section
variable {N : Nat} {q : Nat → Nat} (hq : ∀ j, j < N → q j < N ∧ q j ≠ j ∧ q (q j) = j)
include hq
theorem br_at : ∀ d k, k + d = N → (br d (brB q k) (opc q k))[rkF q d k (opc q k)]? = some (brB q N)
  | 0, k, h => by
    obtain rfl : k = N := by omega
    rfl
  | d + 1, k, h => by
    have ih := br_at d (k + 1) (by omega)
    have hle := opc_le hq d (k + 1) (by omega)
    rw [br, rkF]
    by_cases hk : k < q k
    · have hu := opc_up hq (k := k) (by omega) hk
      rw [hu] at ih hle
      rw [if_pos hk, if_pos (show opc q k < d + 1 by omega), brB_up hk]
      rw [List.getElem?_append_left (List.getElem?_eq_some_iff.1 ih).1]
      exact ih
    · have hdn := opc_down hq (k := k) (by omega) hk
      rw [show opc q (k + 1) = opc q k - 1 by omega] at ih
      rw [if_neg hk, if_pos (show 0 < opc q k by omega), brB_down hk]
      have hl : (if opc q k < d + 1 then br d (brB q k ++ bO) (opc q k + 1) else []).length = if opc q k < d + 1 then wy d (opc q k + 1) else 0 := by
        split
        · exact br_len _ _ _
        · rfl
      rw [List.getElem?_append_right (by rw [hl]; omega), hl, Nat.add_sub_cancel_left]
      exact ih
end
end Go.Proofs.Ytfglgmimnpjhoaa.VE
