/- Contracts of functions of the given program, for all arguments that the contract names; see each theorem. -/
import Derived.Test.YtfglgmimnpjhoaaU7
import Derived.Lib.Bytealg
set_option linter.all false
namespace Go.Proofs.Ytfglgmimnpjhoaa.VE
open Go
set_option maxHeartbeats 800000
set_option maxRecDepth 100000

/-! plain: all texts of brackets, in order, and the place of one -/
def bO : ByteArray := ⟨#[40]⟩
def bC : ByteArray := ⟨#[41]⟩
def br : Nat → ByteArray → Nat → List ByteArray
  | 0, t, _ => [t]
  | d + 1, t, o => (if o < d + 1 then br d (t ++ bO) (o + 1) else []) ++ (if 0 < o then br d (t ++ bC) (o - 1) else [])
def wy : Nat → Nat → Nat
  | 0, _ => 1
  | d + 1, o => (if o < d + 1 then wy d (o + 1) else 0) + (if 0 < o then wy d (o - 1) else 0)
theorem br_len : ∀ d t o, (br d t o).length = wy d o
  | 0, _, _ => rfl
  | d + 1, t, o => by
    rw [br, wy, List.length_append]
    congr 1
    · split
      · exact br_len d _ _
      · rfl
    · split
      · exact br_len d _ _
      · rfl
theorem wy_le : ∀ d o, wy d o ≤ 2 ^ d
  | 0, _ => Nat.le_refl _
  | d + 1, o => by
    have h1 := wy_le d (o + 1)
    have h2 := wy_le d (o - 1)
    rw [wy, Nat.pow_succ]
    split <;> split <;> omega
theorem wy_self : ∀ d, wy d d = 1
  | 0 => rfl
  | d + 1 => by
    rw [wy, if_neg (by omega), if_pos (by omega), Nat.add_sub_cancel, wy_self d]
theorem bs_app {a b : ByteArray} : (a ++ b).data.toList = a.data.toList ++ b.data.toList := by simp
theorem br_pre : ∀ d t o, ∀ s ∈ br d t o, ∃ x, s.data.toList = t.data.toList ++ x
  | 0, t, o, s, h => by
    simp only [br, List.mem_singleton] at h
    subst h; exact ⟨[], by simp⟩
  | d + 1, t, o, s, h => by
    rw [br, List.mem_append] at h
    rcases h with h | h
    · split at h
      · obtain ⟨x, hx⟩ := br_pre d _ _ s h
        exact ⟨bO.data.toList ++ x, by rw [hx, bs_app, List.append_assoc]⟩
      · simp at h
    · split at h
      · obtain ⟨x, hx⟩ := br_pre d _ _ s h
        exact ⟨bC.data.toList ++ x, by rw [hx, bs_app, List.append_assoc]⟩
      · simp at h
abbrev cmpB (a b : ByteArray) : Int := Lib.compareBytes a.data.toList b.data.toList
theorem u8_irr (a : UInt8) : ¬ a < a := by
  intro h
  have := UInt8.lt_iff_toNat_lt.1 h
  omega
theorem cb_pre : ∀ (t x y : List UInt8), Lib.compareBytes (t ++ 40 :: x) (t ++ 41 :: y) = -1
  | [], _, _ => by
    show (if (40 : UInt8) < 41 then _ else _) = _
    rw [if_pos (by decide)]
  | a :: t, x, y => by
    show (if a < a then _ else if a < a then _ else Lib.compareBytes (t ++ 40 :: x) (t ++ 41 :: y)) = _
    rw [if_neg (u8_irr a), if_neg (u8_irr a)]
    exact cb_pre t x y
theorem cb_self : ∀ t : List UInt8, Lib.compareBytes t t = 0
  | [] => rfl
  | a :: t => by
    show (if a < a then _ else if a < a then _ else Lib.compareBytes t t) = _
    rw [if_neg (u8_irr a), if_neg (u8_irr a)]
    exact cb_self t
theorem cb_anti : ∀ a b : List UInt8, Lib.compareBytes a b = - Lib.compareBytes b a
  | [], [] => rfl
  | [], _ :: _ => rfl
  | _ :: _, [] => rfl
  | x :: a, y :: b => by
    show (if x < y then _ else if y < x then _ else Lib.compareBytes a b) = - (if y < x then _ else if x < y then _ else Lib.compareBytes b a)
    by_cases h1 : x < y
    · have h2 : ¬ y < x := fun h => by
        have := UInt8.lt_iff_toNat_lt.1 h
        have := UInt8.lt_iff_toNat_lt.1 h1
        omega
      rw [if_pos h1, if_neg h2, if_pos h1]
    · rw [if_neg h1]
      by_cases h2 : y < x
      · rw [if_pos h2, if_pos h2]; rfl
      · rw [if_neg h2, if_neg h2, if_neg h1]; exact cb_anti a b
theorem br_sorted : ∀ d t o, (br d t o).Pairwise fun a b => cmpB a b = -1
  | 0, _, _ => List.pairwise_singleton _ _
  | d + 1, t, o => by
    rw [br, List.pairwise_append]
    refine ⟨?_, ?_, ?_⟩
    · split
      · exact br_sorted d _ _
      · exact List.Pairwise.nil
    · split
      · exact br_sorted d _ _
      · exact List.Pairwise.nil
    · intro a ha b hb
      split at ha
      · split at hb
        · obtain ⟨x, hx⟩ := br_pre _ _ _ a ha
          obtain ⟨y, hy⟩ := br_pre _ _ _ b hb
          show Lib.compareBytes a.data.toList b.data.toList = _
          rw [hx, hy, bs_app, bs_app, List.append_assoc, List.append_assoc]
          exact cb_pre _ x y
        · simp at hb
      · simp at ha
theorem sorted_cmp {l : List ByteArray} (h : l.Pairwise fun a b => cmpB a b = -1) {i k : Nat} {a b : ByteArray} (hi : l[i]? = some a) (hk : l[k]? = some b) : (i < k → cmpB a b = -1) ∧ (k < i → cmpB a b = 1) ∧ (i = k → cmpB a b = 0) := by
  obtain ⟨h1, rfl⟩ := List.getElem?_eq_some_iff.1 hi
  obtain ⟨h2, rfl⟩ := List.getElem?_eq_some_iff.1 hk
  rw [List.pairwise_iff_getElem] at h
  refine ⟨fun hlt => h i k h1 h2 hlt, fun hlt => ?_, fun he => ?_⟩
  · have := h k i h2 h1 hlt
    have h3 := cb_anti l[i].data.toList l[k].data.toList
    show Lib.compareBytes _ _ = _
    rw [h3, show Lib.compareBytes l[k].data.toList l[i].data.toList = -1 from this]; rfl
  · subst he; exact cb_self _
end Go.Proofs.Ytfglgmimnpjhoaa.VE
